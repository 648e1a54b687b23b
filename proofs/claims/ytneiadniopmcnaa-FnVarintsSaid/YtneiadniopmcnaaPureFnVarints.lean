/-
  An integer is decoded from its varint, and a decoded varint is the encoding of its integer, at every drawn input.
  Conditions: none beside the given statement's own.
-/
import Derived.Test.YtneiadniopmcnaaPFnVarintsx4
set_option linter.unusedSimpArgs false
set_option linter.unusedVariables false
namespace Go.Proofs.Ytneiadniopmcnaa.Pure
open Go.RowKit Go.Proofs.Ytneiadniopmcnaa.PFnVarints Go.Proofs.YtneiadniopmcnaaW.PrintWords Go.Proofs.YtneiadniopmcnaaW.PrintLast Go.Proofs.YtneiadniopmcnaaW.PrintMore

theorem wrap_id {x : Int} (h1 : -9223372036854775808 ≤ x) (h2 : x < 9223372036854775808) : wrap64 x = x := by unfold wrap64; omega
theorem rd_nat (l : List Int) (i : Nat) (h : i < l.length) : rd l (i : Int) = l[i] := by
  unfold rd; rw [Int.toNat_natCast, List.getD_eq_getElem?_getD, List.getElem?_eq_getElem h]; rfl
theorem wf64 {x : Int} (h : (Lit.int .i64 x).wf = true) : -9223372036854775808 ≤ x ∧ x < 9223372036854775808 := by
  have h1 : IntKind.i64.min = -9223372036854775808 := by decide
  have h2 : IntKind.i64.max = 9223372036854775807 := by decide
  simp only [Lit.wf, h1, h2, Bool.and_eq_true, decide_eq_true_eq] at h
  omega
theorem wf8 {x : Int} (h : (Lit.int .u8 x).wf = true) : 0 ≤ x ∧ x < 256 := by
  have h1 : IntKind.u8.min = 0 := by decide
  have h2 : IntKind.u8.max = 255 := by decide
  simp only [Lit.wf, h1, h2, Bool.and_eq_true, decide_eq_true_eq] at h
  omega
theorem set_take (l x : List Int) (i : Nat) (h : i < l.length) (hx : x.length = l.length) (ht : x.take i = l.take i) : (x.set i l[i]).take (i + 1) = l.take (i + 1) := by
  apply List.ext_getElem?
  intro j
  simp only [List.getElem?_take, List.getElem?_set]
  have hj : (x.take i)[j]? = (l.take i)[j]? := by rw [ht]
  simp only [List.getElem?_take] at hj
  by_cases h1 : j < i + 1
  · rw [if_pos h1, if_pos h1]
    by_cases h2 : i = j
    · subst h2; rw [if_pos rfl, if_pos (by omega), List.getElem?_eq_getElem h]
    · rw [if_neg h2]; rw [if_pos (by omega), if_pos (by omega)] at hj; exact hj
  · rw [if_neg h1, if_neg h1]
theorem drop_eq_cons (l : List Int) (i : Nat) (h : i < l.length) : l.drop i = l[i] :: l.drop (i + 1) := List.drop_eq_getElem_cons h
theorem cons_iff {a b : Int} (e : a = b) (l x : List Int) : (a :: l = b :: x) ↔ l = x := by
  rw [e]
  exact ⟨fun h => (List.cons.inj h).2, fun h => by rw [h]⟩
theorem take_full (l x : List Int) (i : Nat) (hi : l.length ≤ i) (hx : x.length = l.length) (ht : x.take i = l.take i) : x = l := by
  rwa [List.take_of_length_le (by omega), List.take_of_length_le hi] at ht

theorem to_wf8 {x : Int} (h0 : 0 ≤ x) (h1 : x < 256) : (Lit.int .u8 x).wf = true := by
  have h1 : IntKind.u8.min = 0 := by decide
  have h2 : IntKind.u8.max = 255 := by decide
  simp only [Lit.wf, h1, h2, Bool.and_eq_true, decide_eq_true_eq]
  omega
theorem to_wf64 {x : Int} (h0 : -9223372036854775808 ≤ x) (h1 : x < 9223372036854775808) : (Lit.int .i64 x).wf = true := by
  have h1 : IntKind.i64.min = -9223372036854775808 := by decide
  have h2 : IntKind.i64.max = 9223372036854775807 := by decide
  simp only [Lit.wf, h1, h2, Bool.and_eq_true, decide_eq_true_eq]
  omega

theorem InRange_eq (a b c : Int) : impl_InRange.f a b c = some (decide (b ≤ a ∧ a ≤ c)) := by
  unfold impl_InRange.f
  by_cases h : b ≤ a
  · rw [if_pos h]; congr 1; by_cases h2 : a ≤ c <;> simp [h2] <;> omega
  · rw [if_neg h]; congr 1; simp; omega

theorem l1In_eq (a b c : Int) : spec_l1In.f a b c = some (decide (b ≤ a ∧ a ≤ c)) := by
  unfold spec_l1In.f
  by_cases h : a ≥ b
  · rw [if_pos h]; congr 1; by_cases h2 : a ≤ c <;> simp [h2] <;> omega
  · rw [if_neg h]; congr 1; simp; omega

theorem big_eq (l : List Int) : laws_big.f l = some (decide ((l.length : Int) > 1048576)) := rfl

theorem and255 (x : Int) : 0 ≤ Go.bits .and .i64 x 255 ∧ Go.bits .and .i64 x 255 ≤ 255 := by
  have h : (BitVec.ofInt IntKind.i64.bits x &&& BitVec.ofInt IntKind.i64.bits 255).toNat ≤ 255 := by
    rw [BitVec.toNat_and]
    exact Nat.le_trans Nat.and_le_right (by decide)
  have e : Go.bits .and .i64 x 255 = IntKind.i64.wrap ((BitVec.ofInt IntKind.i64.bits x &&& BitVec.ofInt IntKind.i64.bits 255).toNat : Int) := rfl
  rw [e, Go.IntKind.wrap_i64]
  omega
/-- The cursor of a draw lies in its bytes. -/
def Cur (b : List Int) (s : Int) : Prop := 0 ≤ s ∧ s ≤ b.length
theorem l1Byte_ok (b : List Int) (hb : b.length ≤ 1048576) (s h : Int) (hs : Cur b s) : ∃ x s' h', spec_l1Byte.f b s h = some (x, s', h') ∧ 0 ≤ x ∧ x ≤ 255 ∧ Cur b s' := by
  have hs0 := hs.1
  have hs1 := hs.2
  unfold spec_l1Byte.f
  by_cases c : s < (b.length : Int)
  · rw [if_pos c, if_pos hs.1]
    have hw : wrap64 (s + 1) = s + 1 := wrap_id (by omega) (by omega)
    rw [hw]
    exact ⟨_, _, _, rfl, (and255 _).1, (and255 _).2, ⟨by omega, by omega⟩⟩
  · rw [if_neg c]
    exact ⟨_, _, _, rfl, (and255 _).1, (and255 _).2, hs⟩
theorem l1Below_ok (b : List Int) (hb : b.length ≤ 1048576) (s h n : Int) (hs : Cur b s) : ∃ x s' h', spec_l1Below.f b s h n = some (x, s', h') ∧ 0 ≤ x ∧ (0 < n → x < n) ∧ Cur b s' := by
  unfold spec_l1Below.f
  by_cases c : n ≤ 0
  · rw [if_pos c]; exact ⟨0, s, h, rfl, by omega, fun h => by omega, hs⟩
  · rw [if_neg c]
    by_cases c2 : n ≤ 256
    · rw [if_pos c2]
      obtain ⟨x, s', h', e, h0, h1, hc⟩ := l1Byte_ok b hb s h hs
      rw [e]
      simp only [Option.bind_some]
      rw [if_neg (by omega), Int.tmod_eq_emod_of_nonneg h0]
      exact ⟨_, _, _, rfl, Int.emod_nonneg _ (by omega), fun h => Int.emod_lt_of_pos _ h, hc⟩
    · rw [if_neg c2]
      obtain ⟨x, s1, h1, e1, a0, a1, hc1⟩ := l1Byte_ok b hb s h hs
      obtain ⟨y, s2, h2, e2, b0, b1, hc2⟩ := l1Byte_ok b hb s1 h1 hc1
      obtain ⟨z, s3, h3, e3, d0, d1, hc3⟩ := l1Byte_ok b hb s2 h2 hc2
      simp only [e1, e2, e3, Option.bind_some]
      rw [if_neg (by omega), wrap_id (x := x * 65536) (by omega) (by omega), wrap_id (x := y * 256) (by omega) (by omega), wrap_id (x := x * 65536 + y * 256) (by omega) (by omega), wrap_id (x := x * 65536 + y * 256 + z) (by omega) (by omega), Int.tmod_eq_emod_of_nonneg (by omega)]
      exact ⟨_, _, _, rfl, Int.emod_nonneg _ (by omega), fun h => Int.emod_lt_of_pos _ h, hc3⟩
theorem l1New_l0 (l : List Int) (hl : l.length ≤ 1048576) (d : Nat) : ∀ (i : Nat) (h : Int), l.length - i = d → ∃ h', Ev (fun k => spec_l1New.l0 k l h (i : Int)) (l, 0, h') := by
  induction d with
  | zero =>
    intro i h hd
    refine ⟨h, Ev.step (f := fun _ => some (l, 0, h)) (fun k => ?_) (Ev.now _)⟩
    simp only [spec_l1New.l0]
    rw [if_neg (by omega)]
  | succ d ih =>
    intro i h hd
    by_cases c : (i : Int) < 4000
    · obtain ⟨h', e⟩ := ih (i + 1) (Go.bits .and .i64 (wrap64 ((wrap64 ((wrap64 (h * 137)) + (wrap64 (rd l (i : Int))))) + 11)) 1073741823) (by omega)
      refine ⟨h', Ev.step (f := fun k => spec_l1New.l0 k l _ ((i + 1 : Nat) : Int)) (fun k => ?_) e⟩
      simp only [spec_l1New.l0]
      rw [if_pos (by omega), if_pos c, if_pos (by omega), wrap_id (x := (i : Int) + 1) (by omega) (by omega)]
      rfl
    · refine ⟨h, Ev.step (f := fun _ => some (l, 0, h)) (fun k => ?_) (Ev.now _)⟩
      simp only [spec_l1New.l0]
      rw [if_pos (by omega), if_neg c]
theorem l1New_ev (l : List Int) (hl : l.length ≤ 1048576) : ∃ h', Ev (fun k => spec_l1New.f k l) (l, 0, h') := l1New_l0 l hl l.length 0 _ (by omega)
theorem cur0 (l : List Int) : Cur l 0 := ⟨by omega, by omega⟩

theorem l1Bytes_l0 (b : List Int) (hb : b.length ≤ 1048576) (n : Nat) (hn : n ≤ 1000) (d : Nat) : ∀ (i : Nat) (acc : List Int) (s h : Int), i + d = n → acc.length = i → (∀ x ∈ acc, (Lit.int .u8 x).wf = true) → Cur b s → ∃ out s' h', Ev (fun k => spec_l1Bytes.l0 k (n : Int) acc (i : Int) b s h) (out, s', h') ∧ out.length = n ∧ (∀ x ∈ out, (Lit.int .u8 x).wf = true) ∧ Cur b s' := by
  induction d with
  | zero =>
    intro i acc s h hd ha hw hs
    refine ⟨acc, s, h, Ev.step (f := fun _ => some (acc, s, h)) (fun k => ?_) (Ev.now _), by omega, hw, hs⟩
    simp only [spec_l1Bytes.l0]
    rw [if_neg (by omega)]
  | succ d ih =>
    intro i acc s h hd ha hw hs
    obtain ⟨x, s1, h1, e1, a0, a1, hc1⟩ := l1Byte_ok b hb s h hs
    obtain ⟨out, s', h', ev, r1, r2, r3⟩ := ih (i + 1) (acc ++ [x % 256]) s1 h1 (by omega) (by simp [ha]) (fun y hy => by
      rcases List.mem_append.1 hy with hy | hy
      · exact hw y hy
      · rw [List.mem_singleton.1 hy]
        exact to_wf8 (by omega) (by omega)) hc1
    refine ⟨out, s', h', Ev.step (f := fun k => spec_l1Bytes.l0 k (n : Int) (acc ++ [x % 256]) ((i + 1 : Nat) : Int) b s1 h1) (fun k => ?_) ev, r1, r2, r3⟩
    simp only [spec_l1Bytes.l0]
    rw [if_pos (by omega), e1]
    simp only [Option.bind_some]
    rw [if_pos (by omega), wrap_id (x := (i : Int) + 1) (by omega) (by omega)]
    rfl
theorem l1Bytes_ev (b : List Int) (hb : b.length ≤ 1048576) (s h n : Int) (h0 : 0 ≤ n) (hn : n ≤ 1000) (hs : Cur b s) : ∃ out s' h', Ev (fun k => spec_l1Bytes.f k b s h n) (out, s', h') ∧ (out.length : Int) = n ∧ (∀ x ∈ out, (Lit.int .u8 x).wf = true) ∧ Cur b s' := by
  obtain ⟨out, s', h', e, r1, r2, r3⟩ := l1Bytes_l0 b hb n.toNat (by omega) n.toNat 0 [] s h (by omega) rfl (by simp) hs
  rw [Int.toNat_of_nonneg h0] at e
  exact ⟨out, s', h', e, by omega, r2, r3⟩

theorem l1Once_ok (b : List Int) (hb : b.length ≤ 1048576) (s h n : Int) (hs : Cur b s) : ∃ (t : Bool) (s' h' : Int), spec_l1Once.f b s h n = some (t, s', h') ∧ Cur b s' := by
  obtain ⟨x, s', h', e, _, _, hc⟩ := l1Below_ok b hb s h n hs
  unfold spec_l1Once.f
  rw [e]
  exact ⟨_, s', h', rfl, hc⟩

theorem l1Int_ok (b : List Int) (hb : b.length ≤ 1048576) (s h : Int) (l : List Int) (hl : 0 < l.length) (hs : Cur b s) : ∃ x s' h', spec_l1Int.f b s h l = some (x, s', h') ∧ x ∈ l ∧ Cur b s' := by
  obtain ⟨x, s', h', e, h0, h1, hc⟩ := l1Below_ok b hb s h (l.length : Int) hs
  have h1 := h1 (by omega)
  unfold spec_l1Int.f
  rw [e]
  simp only [Option.bind_some]
  rw [if_pos h0, if_pos h1]
  refine ⟨_, s', h', rfl, ?_, hc⟩
  have hx : x.toNat < l.length := by omega
  have := rd_nat l x.toNat hx
  rw [Int.toNat_of_nonneg h0] at this
  rw [this]
  exact List.getElem_mem hx

theorem l1Num_ok (b : List Int) (hb : b.length ≤ 1048576) (s h : Int) (hs : Cur b s) : ∃ x s' h', spec_l1Num.f b s h = some (x, s', h') ∧ 0 ≤ x ∧ x ≤ 1000000000000 ∧ Cur b s' := by
  unfold spec_l1Num.f
  obtain ⟨t, s1, h1, e1, t0, t1, c1⟩ := l1Below_ok b hb s h 4 hs
  simp only [e1, Option.bind_some]
  by_cases a : t = 0
  · rw [if_pos a]
    obtain ⟨x, s2, h2, e2, x0, x1, c2⟩ := l1Below_ok b hb s1 h1 2000 c1
    have x1 := x1 (by decide)
    rw [e2]
    exact ⟨x, s2, h2, rfl, x0, by omega, c2⟩
  · rw [if_neg a]
    by_cases a1 : t = 1
    · rw [if_pos a1]
      obtain ⟨x, s2, h2, e2, m, c2⟩ := l1Int_ok b hb s1 h1 [0, 1, 127, 128, 2147483646, 2147483647, 1000000000000] (by simp) c1
      simp only [List.mem_cons, List.not_mem_nil, or_false] at m
      rw [e2]
      exact ⟨x, s2, h2, rfl, by omega, by omega, c2⟩
    · rw [if_neg a1]
      by_cases a2 : t = 2
      · rw [if_pos a2]
        obtain ⟨x, s2, h2, e2, x0, x1, c2⟩ := l1Below_ok b hb s1 h1 1000000 c1
        obtain ⟨y, s3, h3, e3, y0, y1, c3⟩ := l1Below_ok b hb s2 h2 1000000 c2
        have x1 := x1 (by decide)
        have y1 := y1 (by decide)
        simp only [e2, e3, Option.bind_some]
        have m0 : 0 ≤ x * y := Int.mul_nonneg x0 y0
        have m1 : x * y ≤ 999999 * 999999 := Int.mul_le_mul (by omega) (by omega) y0 (by decide)
        rw [wrap_id (x := x * y) (by omega) (by omega)]
        exact ⟨x * y, s3, h3, rfl, by omega, by omega, c3⟩
      · rw [if_neg a2]
        obtain ⟨x, s2, h2, e2, x0, x1, c2⟩ := l1Below_ok b hb s1 h1 20 c1
        have x1 := x1 (by decide)
        rw [e2]
        exact ⟨x, s2, h2, rfl, x0, by omega, c2⟩

theorem l1Odd_ok (b : List Int) (hb : b.length ≤ 1048576) (s h : Int) (hs : Cur b s) : ∃ x s' h', spec_l1Odd.f b s h = some (x, s', h') ∧ -9223372036854775808 ≤ x ∧ x ≤ 9223372036854775807 ∧ Cur b s' := by
  unfold spec_l1Odd.f
  obtain ⟨x, s2, h2, e2, m, c2⟩ := l1Int_ok b hb s h [(-1), 0, 1, 2, 255, 256, 65535, 2147483647, 2147483648, 4294967295, 4294967296, (-2147483648), 9223372036854775807, (-9223372036854775808)] (by simp) hs
  simp only [List.mem_cons, List.not_mem_nil, or_false] at m
  rw [e2]
  exact ⟨x, s2, h2, rfl, by omega, by omega, c2⟩
theorem l1Raw_ok (b : List Int) (hb : b.length ≤ 1048576) (s h : Int) (hs : Cur b s) : ∃ x s' h', spec_l1Raw.f b s h = some (x, s', h') ∧ -9223372036854775808 ≤ x ∧ x ≤ 9223372036854775807 ∧ Cur b s' := by
  unfold spec_l1Raw.f
  obtain ⟨t, s1, h1, e1, c1⟩ := l1Once_ok b hb s h 2 hs
  simp only [e1, Option.bind_some]
  cases t with
  | true =>
    obtain ⟨x, s2, h2, e2, x0, x1, c2⟩ := l1Odd_ok b hb s1 h1 c1
    simp only [e2, Option.bind_some, if_true]
    exact ⟨x, s2, h2, rfl, x0, x1, c2⟩
  | false =>
    obtain ⟨x, s2, h2, e2, m, c2⟩ := l1Int_ok b hb s1 h1 [(-1), 1000000000000, 1000000000001] (by simp) c1
    simp only [List.mem_cons, List.not_mem_nil, or_false] at m
    simp only [e2, Option.bind_some, Bool.false_eq_true, if_false]
    exact ⟨x, s2, h2, rfl, by omega, by omega, c2⟩
theorem l1One_ok (b : List Int) (hb : b.length ≤ 1048576) (s h : Int) (hs : Cur b s) : ∃ x s' h', spec_l1One.f b s h = some (x, s', h') ∧ -9223372036854775808 ≤ x ∧ x ≤ 9223372036854775807 ∧ Cur b s' := by
  unfold spec_l1One.f
  obtain ⟨t, s1, h1, e1, c1⟩ := l1Once_ok b hb s h 6 hs
  simp only [e1, Option.bind_some]
  cases t with
  | true =>
    obtain ⟨x, s2, h2, e2, x0, x1, c2⟩ := l1Raw_ok b hb s1 h1 c1
    simp only [e2, Option.bind_some, if_true]
    exact ⟨x, s2, h2, rfl, x0, x1, c2⟩
  | false =>
    obtain ⟨x, s2, h2, e2, x0, x1, c2⟩ := l1Num_ok b hb s1 h1 c1
    simp only [e2, Option.bind_some, Bool.false_eq_true, if_false]
    exact ⟨x, s2, h2, rfl, by omega, by omega, c2⟩

theorem sameBytes_l0 (l x : List Int) (hl : l.length ≤ 16777216) (hx : x.length = l.length) (d : Nat) : ∀ (i : Nat), l.length - i = d → i ≤ l.length → Ev (fun k => laws_sameBytes.l0 k l x (i : Int)) (decide (l.drop i = x.drop i)) := by
  induction d with
  | zero =>
    intro i hd hi
    rw [List.drop_eq_nil_of_le (by omega), List.drop_eq_nil_of_le (by omega), decide_eq_true rfl]
    refine Ev.step (f := fun _ => some true) (fun k => ?_) (Ev.now true)
    simp only [laws_sameBytes.l0]
    rw [if_neg (by omega)]
  | succ d ih =>
    intro i hd hi
    have h : i < l.length := by omega
    have h' : i < x.length := by omega
    rw [drop_eq_cons l i h, drop_eq_cons x i h']
    by_cases e : l[i] = x[i]
    · rw [decide_eq_decide.2 (cons_iff e _ _)]
      refine Ev.step (f := fun k => laws_sameBytes.l0 k l x ((i + 1 : Nat) : Int)) (fun k => ?_) (ih (i + 1) (by omega) (by omega))
      simp only [laws_sameBytes.l0]
      rw [if_pos (by omega), if_pos (by omega), if_pos (by omega), rd_nat l i h, rd_nat x i h', if_pos e, wrap_id (by omega) (by omega)]
      rfl
    · rw [decide_eq_false fun h => e (List.cons.inj h).1]
      refine Ev.step (f := fun _ => some false) (fun k => ?_) (Ev.now false)
      simp only [laws_sameBytes.l0]
      rw [if_pos (by omega), if_pos (by omega), if_pos (by omega), rd_nat l i h, rd_nat x i h', if_neg e]
theorem sameBytes_ev (l x : List Int) (hl : l.length ≤ 16777216) : Ev (fun k => laws_sameBytes.f k l x) (decide (l = x)) := by
  by_cases e : l.length = x.length
  · refine Ev.congr (f := fun k => laws_sameBytes.l0 k l x ((0 : Nat) : Int)) (fun k => ?_) (by simpa using sameBytes_l0 l x hl e.symm l.length 0 (by omega) (by omega))
    unfold laws_sameBytes.f
    rw [if_pos (by omega)]
    rfl
  · rw [decide_eq_false (fun h => e (by rw [h]))]
    refine Ev.congr (f := fun _ => some false) (fun k => ?_) (Ev.now false)
    unfold laws_sameBytes.f
    rw [if_neg (by omega)]
theorem sameBytes_self (l : List Int) (hl : l.length ≤ 16777216) : Ev (fun k => laws_sameBytes.f k l l) true := by
  simpa using sameBytes_ev l l hl

theorem clone_eq (l : List Int) (hl : l.length ≤ 16777216) : slices_Clone_byte_byte.f l = some l := by
  unfold slices_Clone_byte_byte.f
  simp only [Option.bind_some]
  rw [if_pos (by simp; omega)]
  rfl
def uv : Nat → Int → List Int
  | 0, n => [n % 256]
  | d + 1, n => if n > 127 then (Go.bits .or .i64 (Go.bits .and .i64 n 127) 128) % 256 :: uv d (n / 128) else [n % 256]
theorem uv_len (d : Nat) : ∀ n, (uv d n).length ≤ d + 1 := by
  induction d with
  | zero => intro n; simp [uv]
  | succ d ih =>
    intro n
    simp only [uv]
    split
    · simp only [List.length_cons]; have := ih (n / 128); omega
    · simp
theorem uv_byte (d : Nat) : ∀ n, ∀ x ∈ uv d n, 0 ≤ x ∧ x < 256 := by
  induction d with
  | zero => intro n x hx; simp only [uv, List.mem_singleton] at hx; omega
  | succ d ih =>
    intro n x hx
    simp only [uv] at hx
    split at hx
    · rcases List.mem_cons.1 hx with rfl | hx
      · omega
      · exact ih _ x hx
    · simp only [List.mem_singleton] at hx; omega

theorem implUv_l0 (d : Nat) : ∀ (n : Int) (acc : List Int), 0 ≤ n → n < 128 ^ (d + 1) → acc.length + d ≤ 16777215 → Ev (fun k => impl_AppendUvarint.l0 k n acc) (acc ++ uv d n) := by
  induction d with
  | zero =>
    intro n acc h0 h1 ha
    refine Ev.step (f := fun _ => some (acc ++ uv 0 n)) (fun k => ?_) (Ev.now _)
    simp only [impl_AppendUvarint.l0, uv]
    rw [if_neg (by simp at h1; omega), if_pos (by omega)]
  | succ d ih =>
    intro n acc h0 h1 ha
    by_cases h : n > 127
    · have e : uv (d + 1) n = (Go.bits .or .i64 (Go.bits .and .i64 n 127) 128) % 256 :: uv d (n / 128) := by simp only [uv]; rw [if_pos h]
      rw [e, List.append_cons]
      refine Ev.step (f := fun k => impl_AppendUvarint.l0 k (n / 128) (acc ++ [(Go.bits .or .i64 (Go.bits .and .i64 n 127) 128) % 256])) (fun k => ?_) (ih (n / 128) (acc ++ [_]) (by omega) (by rw [Int.pow_succ] at h1; omega) (by simp; omega))
      simp only [impl_AppendUvarint.l0]
      rw [if_pos h, if_pos (by omega)]
    · have e : uv (d + 1) n = [n % 256] := by simp only [uv]; rw [if_neg h]
      rw [e]
      refine Ev.step (f := fun _ => some (acc ++ [n % 256])) (fun k => ?_) (Ev.now _)
      simp only [impl_AppendUvarint.l0]
      rw [if_neg h, if_pos (by omega)]

def auvOf (l : List Int) (n : Int) : List Int := if 0 ≤ n ∧ n ≤ 1000000000000 then l ++ uv 5 n else l
theorem auvOf_len (l : List Int) (n : Int) : l.length ≤ (auvOf l n).length ∧ (auvOf l n).length ≤ l.length + 6 := by
  unfold auvOf
  split
  · have := uv_len 5 n
    simp only [List.length_append]
    omega
  · omega
theorem implAuv_ev (l : List Int) (n : Int) (hl : l.length ≤ 16777200) : Ev (fun k => impl_AppendUvarint.f k l n) (auvOf l n) := by
  unfold impl_AppendUvarint.f
  simp only [clone_eq l (by omega), Option.bind_some, InRange_eq]
  unfold auvOf
  by_cases h : 0 ≤ n ∧ n ≤ 1000000000000
  · simp only [decide_eq_true h, if_true, if_pos h]
    exact implUv_l0 5 n l h.1 (by omega) (by omega)
  · simp only [decide_eq_false h, Bool.false_eq_true, if_false, if_neg h]
    exact Ev.now l

theorem specUv_l0 (d : Nat) : ∀ (n : Int) (acc : List Int), 0 ≤ n → n < 128 ^ (d + 1) → acc.length + d ≤ 16777215 → Ev (fun k => spec_AppendUvarint.l0 k n acc) (acc ++ uv d n) := by
  induction d with
  | zero =>
    intro n acc h0 h1 ha
    refine Ev.step (f := fun _ => some (acc ++ uv 0 n)) (fun k => ?_) (Ev.now _)
    simp only [spec_AppendUvarint.l0, uv]
    rw [if_neg (by simp at h1; omega), if_pos (by omega)]
  | succ d ih =>
    intro n acc h0 h1 ha
    by_cases h : n > 127
    · have e : uv (d + 1) n = (Go.bits .or .i64 (Go.bits .and .i64 n 127) 128) % 256 :: uv d (n / 128) := by simp only [uv]; rw [if_pos h]
      rw [e, List.append_cons]
      refine Ev.step (f := fun k => spec_AppendUvarint.l0 k (n / 128) (acc ++ [(Go.bits .or .i64 (Go.bits .and .i64 n 127) 128) % 256])) (fun k => ?_) (ih (n / 128) (acc ++ [_]) (by omega) (by rw [Int.pow_succ] at h1; omega) (by simp; omega))
      simp only [spec_AppendUvarint.l0]
      rw [if_pos h, if_pos (by omega)]
    · have e : uv (d + 1) n = [n % 256] := by simp only [uv]; rw [if_neg h]
      rw [e]
      refine Ev.step (f := fun _ => some (acc ++ [n % 256])) (fun k => ?_) (Ev.now _)
      simp only [spec_AppendUvarint.l0]
      rw [if_neg h, if_pos (by omega)]
theorem specAuv_ev (l : List Int) (n : Int) (hl : l.length ≤ 16777200) : Ev (fun k => spec_AppendUvarint.f k l n) (auvOf l n) := by
  unfold spec_AppendUvarint.f
  simp only [Option.bind_some, l1In_eq, List.nil_append, List.length_nil, if_pos (show 0 + l.length < 140737488355328 by omega)]
  unfold auvOf
  by_cases h : 0 ≤ n ∧ n ≤ 1000000000000
  · simp only [decide_eq_true h, if_true, if_pos h]
    exact specUv_l0 5 n l h.1 (by omega) (by omega)
  · simp only [decide_eq_false h, Bool.false_eq_true, if_false, if_neg h]
    exact Ev.now l

theorem or_small (i : Nat) (hi : i ≤ 42) (n c : Int) (h0 : 0 ≤ n) (h1 : n < 2 ^ i) (hc0 : 0 ≤ c) (hc1 : c < 128) : Go.bits .or .i64 n (c * 2 ^ i) = n + c * 2 ^ i := by
  have hcomm : Go.bits .or .i64 n (c * 2 ^ i) = Go.bits .or .i64 (c * 2 ^ i) n := by
    simp only [Go.bits, BitVec.or_comm]
  have hp : (0 : Int) < 2 ^ i := Int.pow_pos (by decide)
  have hle : (2 : Int) ^ i ≤ 2 ^ 42 := by exact_mod_cast Nat.pow_le_pow_right (by decide) hi
  have e42 : (2 : Int) ^ 42 = 4398046511104 := by decide
  have e62 : (2 : Int) ^ 62 = 4611686018427387904 := by decide
  have hb : c * 2 ^ i ≤ 127 * 4398046511104 := by
    have h2 : c * 2 ^ i ≤ 127 * 2 ^ i := Int.mul_le_mul_of_nonneg_right (by omega) (Int.le_of_lt hp)
    omega
  have hnn : 0 ≤ c * 2 ^ i := Int.mul_nonneg hc0 (Int.le_of_lt hp)
  rw [hcomm, Go.bits_join .i64 62 (by decide) (fun n h0 h1 => by rw [Go.IntKind.wrap_i64]; omega) i (c * 2 ^ i) n hnn (Int.mul_emod_left _ _) (by omega) h0 h1 (by omega)]
  omega
theorem shl_small' (i : Nat) (hi : i ≤ 42) (c : Int) (hc0 : 0 ≤ c) (hc1 : c < 128) : shl .i64 c (i : Int) = c * 2 ^ i := by
  unfold shl
  have hp : (0 : Int) < 2 ^ i := Int.pow_pos (by decide)
  have hle : (2 : Int) ^ i ≤ 2 ^ 42 := by exact_mod_cast Nat.pow_le_pow_right (by decide) hi
  have e42 : (2 : Int) ^ 42 = 4398046511104 := by decide
  have hb : c * 2 ^ i ≤ 127 * 4398046511104 := by
    have h2 : c * 2 ^ i ≤ 127 * 2 ^ i := Int.mul_le_mul_of_nonneg_right (by omega) (Int.le_of_lt hp)
    omega
  have hnn : 0 ≤ c * 2 ^ i := Int.mul_nonneg hc0 (Int.le_of_lt hp)
  have hm : min (i : Int).toNat IntKind.i64.bits = i := by
    have : IntKind.i64.bits = 64 := rfl
    rw [this, Int.toNat_natCast]
    omega
  rw [hm, Go.IntKind.wrap_i64]
  omega
theorem and127 (c : Int) (h0 : 0 ≤ c) (h1 : c < 256) : Go.bits .and .i64 c 127 = c % 128 := by
  have := Go.bits_mask .i64 62 (by decide) (fun n h0 h1 => by rw [Go.IntKind.wrap_i64]; have : (2 : Int) ^ 62 = 4611686018427387904 := by decide
                                                              omega) 7 (by decide) c h0 (by have : (2 : Int) ^ 62 = 4611686018427387904 := by decide
                                                                                            omega)
  simpa using this
/-- The varint at place p: from its i-th byte on, n being what has been read. -/
def ruv (l : List Int) (p : Nat) : Nat → Nat → Int → Int × Int × Bool
  | 0, _, _ => (0, 0, false)
  | d + 1, i, n =>
    if (l.length : Int) ≤ (p : Int) + i then (0, 0, false)
    else if rd l ((p + i : Nat) : Int) < 128 then
      (if (0 < i ∧ rd l ((p + i : Nat) : Int) = 0) ∨ n + rd l ((p + i : Nat) : Int) % 128 * 2 ^ (7 * i) > 1000000000000 then (0, 0, false)
       else (n + rd l ((p + i : Nat) : Int) % 128 * 2 ^ (7 * i), (p : Int) + i + 1, true))
    else ruv l p d (i + 1) (n + rd l ((p + i : Nat) : Int) % 128 * 2 ^ (7 * i))
def ruvOf (l : List Int) (a : Int) : Int × Int × Bool := if 0 ≤ a ∧ a < l.length then ruv l a.toNat 6 0 0 else (0, 0, false)
theorem rd_byte (l : List Int) (w : ∀ x ∈ l, (Lit.int .u8 x).wf = true) (p : Nat) (h : p < l.length) : 0 ≤ rd l (p : Int) ∧ rd l (p : Int) < 256 := by
  rw [rd_nat l p h]
  exact wf8 (w _ (List.getElem_mem h))
theorem pow7 (i : Nat) : (2 : Int) ^ (7 * (i + 1)) = 128 * 2 ^ (7 * i) := by
  rw [show 7 * (i + 1) = 7 * i + 7 from by omega, Int.pow_add, Int.mul_comm]
  rfl
theorem ruv_next (i : Nat) (n c : Int) (h0 : 0 ≤ n) (h1 : n < 2 ^ (7 * i)) : 0 ≤ n + c % 128 * 2 ^ (7 * i) ∧ n + c % 128 * 2 ^ (7 * i) < 2 ^ (7 * (i + 1)) := by
  have hp : (0 : Int) < 2 ^ (7 * i) := Int.pow_pos (by decide)
  have h2 : c % 128 * 2 ^ (7 * i) ≤ 127 * 2 ^ (7 * i) := Int.mul_le_mul_of_nonneg_right (by omega) (Int.le_of_lt hp)
  have h3 : 0 ≤ c % 128 * 2 ^ (7 * i) := Int.mul_nonneg (by omega) (Int.le_of_lt hp)
  rw [pow7]
  omega
theorem ruv_spec (l : List Int) (p : Nat) (d : Nat) : ∀ (i : Nat) (n : Int), 0 ≤ n → n < 2 ^ (7 * i) →
    (ruv l p d i n = (0, 0, false) ∨ ∃ m q : Int, ruv l p d i n = (m, q, true) ∧ 0 ≤ m ∧ m ≤ 1000000000000 ∧ (p : Int) < q ∧ q ≤ l.length) := by
  induction d with
  | zero => intro i n _ _; exact .inl rfl
  | succ d ih =>
    intro i n h0 h1
    simp only [ruv]
    have hn := ruv_next i n (rd l ((p + i : Nat) : Int)) h0 h1
    by_cases c1 : (l.length : Int) ≤ (p : Int) + i
    · rw [if_pos c1]; exact .inl rfl
    · rw [if_neg c1]
      by_cases c2 : rd l ((p + i : Nat) : Int) < 128
      · rw [if_pos c2]
        by_cases c3 : (0 < i ∧ rd l ((p + i : Nat) : Int) = 0) ∨ n + rd l ((p + i : Nat) : Int) % 128 * 2 ^ (7 * i) > 1000000000000
        · rw [if_pos c3]; exact .inl rfl
        · rw [if_neg c3]
          refine .inr ⟨_, _, rfl, hn.1, by omega, by omega, by omega⟩
      · rw [if_neg c2]
        exact ih (i + 1) _ hn.1 hn.2
theorem ruvOf_spec (l : List Int) (a : Int) : ruvOf l a = (0, 0, false) ∨ ∃ m q : Int, ruvOf l a = (m, q, true) ∧ 0 ≤ m ∧ m ≤ 1000000000000 ∧ 0 ≤ a ∧ a < q ∧ q ≤ l.length := by
  unfold ruvOf
  by_cases c : 0 ≤ a ∧ a < l.length
  · rw [if_pos c]
    rcases ruv_spec l a.toNat 6 0 0 (by decide) (by decide) with h | ⟨m, q, h, h1, h2, h3, h4⟩
    · exact .inl h
    · exact .inr ⟨m, q, h, h1, h2, c.1, by omega, h4⟩
  · rw [if_neg c]; exact .inl rfl

theorem at_eq (a b : Int) : impl_at.f a b = some (decide (0 ≤ a ∧ a < b)) := by
  unfold impl_at.f
  by_cases h : a ≥ 0
  · rw [if_pos h]; congr 1; by_cases h2 : a < b <;> simp [h2] <;> omega
  · rw [if_neg h]; congr 1; simp; omega
theorem implRuv_l0 (l : List Int) (hl : l.length ≤ 16777216) (w : ∀ x ∈ l, (Lit.int .u8 x).wf = true) (p : Nat) (hp : p < l.length) (d : Nat) : ∀ (i : Nat) (n : Int), i + d = 6 → 0 ≤ n → n < 2 ^ (7 * i) → Ev (fun k => impl_ReadUvarint.l0 k l (p : Int) n (i : Int)) (ruv l p d i n) := by
  induction d with
  | zero =>
    intro i n hd h0 h1
    refine Ev.step (f := fun _ => some (0, 0, false)) (fun k => ?_) (Ev.now _)
    simp only [impl_ReadUvarint.l0]
    rw [if_neg (by omega)]
  | succ d ih =>
    intro i n hd h0 h1
    have hpi : (p : Int) + i = ((p + i : Nat) : Int) := by omega
    have hw1 : wrap64 ((p : Int) + i) = ((p + i : Nat) : Int) := by rw [wrap_id (by omega) (by omega)]; omega
    by_cases c1 : (l.length : Int) ≤ (p : Int) + i
    · have e : ruv l p (d + 1) i n = (0, 0, false) := by simp only [ruv]; rw [if_pos c1]
      rw [e]
      refine Ev.step (f := fun _ => some (0, 0, false)) (fun k => ?_) (Ev.now _)
      simp only [impl_ReadUvarint.l0, hw1]
      rw [if_pos (by omega), if_pos (by omega)]
    · have hb := rd_byte l w (p + i) (by omega)
      have h7 : wrap64 (7 * (i : Int)) = ((7 * i : Nat) : Int) := by rw [wrap_id (by omega) (by omega)]; omega
      have hor : Go.bits .or .i64 n (shl .i64 (Go.bits .and .i64 (rd l ((p + i : Nat) : Int)) 127) ((7 * i : Nat) : Int)) = n + rd l ((p + i : Nat) : Int) % 128 * 2 ^ (7 * i) := by
        rw [and127 _ hb.1 hb.2, shl_small' (7 * i) (by omega) _ (by omega) (by omega), or_small (7 * i) (by omega) n _ h0 h1 (by omega) (by omega)]
      have hn := ruv_next i n (rd l ((p + i : Nat) : Int)) h0 h1
      by_cases c2 : rd l ((p + i : Nat) : Int) < 128
      · by_cases c3 : (0 < i ∧ rd l ((p + i : Nat) : Int) = 0) ∨ n + rd l ((p + i : Nat) : Int) % 128 * 2 ^ (7 * i) > 1000000000000
        · have e : ruv l p (d + 1) i n = (0, 0, false) := by simp only [ruv]; rw [if_neg c1, if_pos c2, if_pos c3]
          rw [e]
          refine Ev.step (f := fun _ => some (0, 0, false)) (fun k => ?_) (Ev.now _)
          simp only [impl_ReadUvarint.l0, hw1, h7]
          rw [if_pos (by omega), if_neg (by omega), if_pos (by omega), if_pos (by omega), if_pos (by omega), wrap_id (x := rd l ((p + i : Nat) : Int)) (by omega) (by omega), if_pos c2, hor]
          by_cases c4 : (i : Int) > 0
          · rw [if_pos c4]
            by_cases c5 : rd l ((p + i : Nat) : Int) = 0
            · rw [if_pos c5]
            · rw [if_neg c5, if_pos (by rcases c3 with c3 | c3; exact absurd c3.2 c5; exact c3)]
          · rw [if_neg c4, if_pos (by rcases c3 with c3 | c3; exact absurd c3.1 (by omega); exact c3)]
        · have e : ruv l p (d + 1) i n = (n + rd l ((p + i : Nat) : Int) % 128 * 2 ^ (7 * i), (p : Int) + i + 1, true) := by simp only [ruv]; rw [if_neg c1, if_pos c2, if_neg c3]
          rw [e]
          refine Ev.step (f := fun _ => some (n + rd l ((p + i : Nat) : Int) % 128 * 2 ^ (7 * i), (p : Int) + i + 1, true)) (fun k => ?_) (Ev.now _)
          simp only [impl_ReadUvarint.l0, hw1, h7]
          rw [if_pos (by omega), if_neg (by omega), if_pos (by omega), if_pos (by omega), if_pos (by omega), wrap_id (x := rd l ((p + i : Nat) : Int)) (by omega) (by omega), if_pos c2, hor, wrap_id (x := ((p + i : Nat) : Int) + 1) (by omega) (by omega), if_neg (fun h => c3 (.inr h)), hpi]
          by_cases c4 : (i : Int) > 0
          · rw [if_pos c4, if_neg (fun h => c3 (.inl ⟨by omega, h⟩))]
          · rw [if_neg c4]
      · have e : ruv l p (d + 1) i n = ruv l p d (i + 1) (n + rd l ((p + i : Nat) : Int) % 128 * 2 ^ (7 * i)) := by simp only [ruv]; rw [if_neg c1, if_neg c2]
        rw [e]
        refine Ev.step (f := fun k => impl_ReadUvarint.l0 k l (p : Int) (n + rd l ((p + i : Nat) : Int) % 128 * 2 ^ (7 * i)) ((i + 1 : Nat) : Int)) (fun k => ?_) (ih (i + 1) _ (by omega) hn.1 hn.2)
        simp only [impl_ReadUvarint.l0, hw1, h7]
        rw [if_pos (by omega), if_neg (by omega), if_pos (by omega), if_pos (by omega), if_pos (by omega), wrap_id (x := rd l ((p + i : Nat) : Int)) (by omega) (by omega), if_neg c2, hor, wrap_id (x := (i : Int) + 1) (by omega) (by omega)]
        rfl
theorem implRuv_ev (l : List Int) (a : Int) (hl : l.length ≤ 16777216) (w : ∀ x ∈ l, (Lit.int .u8 x).wf = true) : Ev (fun k => impl_ReadUvarint.f k l a) (ruvOf l a) := by
  unfold impl_ReadUvarint.f ruvOf
  simp only [at_eq, Option.bind_some]
  by_cases c : 0 ≤ a ∧ a < l.length
  · simp only [decide_eq_true c, if_true, if_pos c]
    have := implRuv_l0 l hl w a.toNat (by omega) 6 0 0 (by omega) (by omega) (by simp)
    rw [Int.toNat_of_nonneg c.1] at this
    exact this
  · simp only [decide_eq_false c, Bool.false_eq_true, if_false, if_neg c]
    exact Ev.now _

theorem specRuv_l0 (l : List Int) (hl : l.length ≤ 16777216) (w : ∀ x ∈ l, (Lit.int .u8 x).wf = true) (p : Nat) (hp : p < l.length) (d : Nat) : ∀ (i : Nat) (n : Int), i + d = 6 → 0 ≤ n → n < 2 ^ (7 * i) → Ev (fun k => spec_ReadUvarint.l0 k l (p : Int) n (i : Int)) (ruv l p d i n) := by
  induction d with
  | zero =>
    intro i n hd h0 h1
    refine Ev.step (f := fun _ => some (0, 0, false)) (fun k => ?_) (Ev.now _)
    simp only [spec_ReadUvarint.l0]
    rw [if_neg (by omega)]
  | succ d ih =>
    intro i n hd h0 h1
    refine Ev.step (f := fun k => spec_ReadUvarint.j1 k l (p : Int) n (i : Int) (decide ((l.length : Int) ≤ (p : Int) + i))) (fun k => ?_) ?_
    · simp only [spec_ReadUvarint.l0]
      rw [if_pos (by omega), if_neg (by omega), wrap_id (x := (l.length : Int) - i) (by omega) (by omega)]
      have : decide ((p : Int) ≥ (l.length : Int) - i) = decide ((l.length : Int) ≤ (p : Int) + i) := decide_eq_decide.2 (by omega)
      rw [this]
    · by_cases c1 : (l.length : Int) ≤ (p : Int) + i
      · have e : ruv l p (d + 1) i n = (0, 0, false) := by simp only [ruv]; rw [if_pos c1]
        rw [e]
        refine Ev.step (f := fun _ => some (0, 0, false)) (fun k => ?_) (Ev.now _)
        simp only [spec_ReadUvarint.j1]
        rw [if_pos (decide_eq_true c1)]
      · have hb := rd_byte l w (p + i) (by omega)
        have hpi : (p : Int) + i = ((p + i : Nat) : Int) := by omega
        have h7 : wrap64 (7 * (i : Int)) = ((7 * i : Nat) : Int) := by rw [wrap_id (by omega) (by omega)]; omega
        have hw1 : wrap64 ((p : Int) + i) = ((p + i : Nat) : Int) := by rw [wrap_id (by omega) (by omega)]; omega
        have hor : Go.bits .or .i64 n (shl .i64 (Go.bits .and .i64 (rd l ((p + i : Nat) : Int)) 127) ((7 * i : Nat) : Int)) = n + rd l ((p + i : Nat) : Int) % 128 * 2 ^ (7 * i) := by
          rw [and127 _ hb.1 hb.2, shl_small' (7 * i) (by omega) _ (by omega) (by omega), or_small (7 * i) (by omega) n _ h0 h1 (by omega) (by omega)]
        have hn := ruv_next i n (rd l ((p + i : Nat) : Int)) h0 h1
        by_cases c2 : rd l ((p + i : Nat) : Int) < 128
        · by_cases c3 : (0 < i ∧ rd l ((p + i : Nat) : Int) = 0) ∨ n + rd l ((p + i : Nat) : Int) % 128 * 2 ^ (7 * i) > 1000000000000
          · have e : ruv l p (d + 1) i n = (0, 0, false) := by simp only [ruv]; rw [if_neg c1, if_pos c2, if_pos c3]
            rw [e]
            refine Ev.step (f := fun _ => some (0, 0, false)) (fun k => ?_) (Ev.now _)
            simp only [spec_ReadUvarint.j1, hw1, h7]
            rw [if_neg (by simpa using c1), if_pos (by omega), if_pos (by omega), if_pos (by omega), wrap_id (x := rd l ((p + i : Nat) : Int)) (by omega) (by omega), if_pos c2, hor]
            by_cases c4 : rd l ((p + i : Nat) : Int) = 0
            · rw [if_pos c4]
              by_cases c5 : (i : Int) > 0
              · rw [if_pos c5]
              · rw [if_neg c5, if_pos (by rcases c3 with c3 | c3; exact absurd c3.1 (by omega); exact c3)]
            · rw [if_neg c4, if_pos (by rcases c3 with c3 | c3; exact absurd c3.2 c4; exact c3)]
          · have e : ruv l p (d + 1) i n = (n + rd l ((p + i : Nat) : Int) % 128 * 2 ^ (7 * i), (p : Int) + i + 1, true) := by simp only [ruv]; rw [if_neg c1, if_pos c2, if_neg c3]
            rw [e]
            refine Ev.step (f := fun _ => some (n + rd l ((p + i : Nat) : Int) % 128 * 2 ^ (7 * i), (p : Int) + i + 1, true)) (fun k => ?_) (Ev.now _)
            simp only [spec_ReadUvarint.j1, hw1, h7]
            rw [if_neg (by simpa using c1), if_pos (by omega), if_pos (by omega), if_pos (by omega), wrap_id (x := rd l ((p + i : Nat) : Int)) (by omega) (by omega), if_pos c2, hor, wrap_id (x := ((p + i : Nat) : Int) + 1) (by omega) (by omega), if_neg (fun h => c3 (.inr h)), hpi]
            by_cases c4 : rd l ((p + i : Nat) : Int) = 0
            · rw [if_pos c4, if_neg (fun h => c3 (.inl ⟨by omega, c4⟩))]
            · rw [if_neg c4]
        · have e : ruv l p (d + 1) i n = ruv l p d (i + 1) (n + rd l ((p + i : Nat) : Int) % 128 * 2 ^ (7 * i)) := by simp only [ruv]; rw [if_neg c1, if_neg c2]
          rw [e]
          refine Ev.step (f := fun k => spec_ReadUvarint.l0 k l (p : Int) (n + rd l ((p + i : Nat) : Int) % 128 * 2 ^ (7 * i)) ((i + 1 : Nat) : Int)) (fun k => ?_) (ih (i + 1) _ (by omega) hn.1 hn.2)
          simp only [spec_ReadUvarint.j1, hw1, h7]
          rw [if_neg (by simpa using c1), if_pos (by omega), if_pos (by omega), if_pos (by omega), wrap_id (x := rd l ((p + i : Nat) : Int)) (by omega) (by omega), if_neg c2, hor, wrap_id (x := (i : Int) + 1) (by omega) (by omega)]
          rfl
theorem specRuv_ev (l : List Int) (a : Int) (hl : l.length ≤ 16777216) (w : ∀ x ∈ l, (Lit.int .u8 x).wf = true) (wa : (Lit.int .i64 a).wf = true) : Ev (fun k => spec_ReadUvarint.f k l a) (ruvOf l a) := by
  have ha := wf64 wa
  unfold spec_ReadUvarint.f ruvOf
  by_cases c : 0 ≤ a ∧ a < l.length
  · rw [if_pos c]
    have := specRuv_l0 l hl w a.toNat (by omega) 6 0 0 (by omega) (by omega) (by simp)
    rw [Int.toNat_of_nonneg c.1] at this
    exact this
  · rw [if_neg c]
    by_cases c2 : a < 0
    · refine Ev.step (f := fun k => spec_ReadUvarint.j1 k l a 0 0 true) (fun k => ?_) ?_
      · simp only [spec_ReadUvarint.l0]
        rw [if_pos (by omega), if_pos c2]
      · refine Ev.step (f := fun _ => some (0, 0, false)) (fun k => ?_) (Ev.now _)
        simp only [spec_ReadUvarint.j1, if_true]
    · refine Ev.step (f := fun k => spec_ReadUvarint.j1 k l a 0 0 true) (fun k => ?_) ?_
      · simp only [spec_ReadUvarint.l0]
        rw [if_pos (by omega), if_neg c2, wrap_id (x := (l.length : Int) - 0) (by omega) (by omega), decide_eq_true (show a ≥ (l.length : Int) - 0 by omega)]
      · refine Ev.step (f := fun _ => some (0, 0, false)) (fun k => ?_) (Ev.now _)
        simp only [spec_ReadUvarint.j1, if_true]

theorem or128 (n : Int) (h0 : 0 ≤ n) (h1 : n < 9223372036854775808) : (Go.bits .or .i64 (Go.bits .and .i64 n 127) 128) % 256 = n % 128 + 128 := by
  have ha : Go.bits .and .i64 n 127 = n % 128 := by
    have := Go.bits_mask .i64 63 (by decide) (fun n h0 h1 => by rw [Go.IntKind.wrap_i64]; have e := (by decide : (2 : Int) ^ 63 = 9223372036854775808); omega) 7 (by decide) n h0 (by have e := (by decide : (2 : Int) ^ 63 = 9223372036854775808); omega)
    simpa using this
  have := or_small 7 (by decide) (n % 128) 1 (by omega) (by have e := (by decide : (2 : Int) ^ 7 = 128); omega) (by decide) (by decide)
  have e7 : (1 : Int) * 2 ^ 7 = 128 := by decide
  rw [e7] at this
  rw [ha, this]
  omega
theorem uv_small (d : Nat) (n : Int) (h0 : 0 ≤ n) (h : n ≤ 127) : uv d n = [n] := by
  cases d with
  | zero => simp only [uv]; congr 1; omega
  | succ d => simp only [uv]; rw [if_neg (by omega)]; congr 1; omega
theorem uv_big (d : Nat) (n : Int) (h : 127 < n) (h1 : n < 9223372036854775808) : uv (d + 1) n = (n % 128 + 128) :: uv d (n / 128) := by
  simp only [uv]
  rw [if_pos h, or128 n (by omega) h1]
theorem rd_drop (X : List Int) (j : Nat) (a : Int) (S : List Int) (h : X.drop j = a :: S) : j < X.length ∧ rd X (j : Int) = a ∧ X.drop (j + 1) = S := by
  have hj : j < X.length := by
    rcases Nat.lt_or_ge j X.length with h' | h'
    · exact h'
    · rw [List.drop_eq_nil_of_le h'] at h; cases h
  have h2 := List.drop_eq_getElem_cons hj
  rw [h] at h2
  injection h2 with h3 h4
  exact ⟨hj, by rw [rd_nat X j hj, h3], h4.symm⟩
/-- What was encoded is read back. -/
theorem ruv_uv (X : List Int) (p : Nat) (d : Nat) : ∀ (i : Nat) (n acc : Int) (S : List Int), X.drop (p + i) = uv d n ++ S → 0 ≤ n → n < 128 ^ (d + 1) → n < 9223372036854775808 → (0 < i → 0 < n) → 0 ≤ acc → acc + n * 2 ^ (7 * i) ≤ 1000000000000 →
    ruv X p (d + 1) i acc = (acc + n * 2 ^ (7 * i), (p : Int) + i + (uv d n).length, true) := by
  induction d with
  | zero =>
    intro i n acc S hX h0 h1 h2 hi ha hb
    have hn : n ≤ 127 := by simp at h1; omega
    rw [uv_small 0 n h0 hn] at hX ⊢
    obtain ⟨hj, hr, _⟩ := rd_drop X (p + i) n S hX
    have hm : n % 128 = n := by omega
    simp only [ruv, hr, hm]
    rw [if_neg (by omega), if_pos (by omega), if_neg (fun h => by
      rcases h with ⟨h3, h4⟩ | h
      · have := hi h3; omega
      · omega)]
    simp
  | succ d ih =>
    intro i n acc S hX h0 h1 h2 hi ha hb
    by_cases hn : n ≤ 127
    · rw [uv_small (d + 1) n h0 hn] at hX ⊢
      obtain ⟨hj, hr, _⟩ := rd_drop X (p + i) n S hX
      have hm : n % 128 = n := by omega
      simp only [ruv, hr, hm]
      rw [if_neg (by omega), if_pos (by omega), if_neg (fun h => by
        rcases h with ⟨h3, h4⟩ | h
        · have := hi h3; omega
        · omega)]
      simp
    · rw [uv_big d n (by omega) h2] at hX ⊢
      obtain ⟨hj, hr, hX'⟩ := rd_drop X (p + i) _ _ hX
      have e : ruv X p (d + 1 + 1) i acc = ruv X p (d + 1) (i + 1) (acc + (n % 128 + 128) % 128 * 2 ^ (7 * i)) := by
        rw [ruv, hr]
        rw [if_neg (by omega), if_neg (by omega)]
      have hm : (n % 128 + 128) % 128 = n % 128 := by omega
      rw [hm] at e
      have hp := pow7 i
      have hpp : (0 : Int) < 2 ^ (7 * i) := Int.pow_pos (by decide)
      have hs : acc + n % 128 * 2 ^ (7 * i) + n / 128 * 2 ^ (7 * (i + 1)) = acc + n * 2 ^ (7 * i) := by
        rw [hp, ← Int.mul_assoc, Int.add_assoc, ← Int.add_mul]
        congr 2
        omega
      have h3 := ih (i + 1) (n / 128) (acc + n % 128 * 2 ^ (7 * i)) S hX' (by omega) (by rw [Int.pow_succ] at h1; omega) (by omega) (fun _ => by omega) (by have := Int.mul_nonneg (a := n % 128) (b := 2 ^ (7 * i)) (by omega) (Int.le_of_lt hpp); omega) (by omega)
      rw [e, h3, hs]
      simp only [List.length_cons]
      congr 2
      omega
theorem ruvOf_uv (P S : List Int) (n : Int) (h0 : 0 ≤ n) (h1 : n ≤ 1000000000000) : ruvOf (P ++ uv 5 n ++ S) (P.length : Int) = (n, (P.length : Int) + ((uv 5 n).length : Int), true) := by
  have hpos : 0 < (uv 5 n).length := by
    by_cases hn : n ≤ 127
    · rw [uv_small 5 n h0 hn]; simp
    · rw [uv_big 4 n (by omega) (by omega)]; simp
  unfold ruvOf
  rw [if_pos ⟨by omega, by simp only [List.length_append]; omega⟩, Int.toNat_natCast]
  have := ruv_uv (P ++ uv 5 n ++ S) P.length 5 0 n 0 S (by rw [Nat.add_zero, List.append_assoc, List.drop_left]) h0 (by omega) (by omega) (fun h => by omega) (by omega) (by simp; omega)
  rw [this]
  simp

theorem pow_pos7 (i : Nat) : (1 : Int) ≤ 2 ^ (7 * i) := by
  have : (0 : Int) < 2 ^ (7 * i) := Int.pow_pos (by decide)
  omega
/-- What was read is the encoding of its integer. -/
theorem ruv_inv (X : List Int) (w : ∀ x ∈ X, (Lit.int .u8 x).wf = true) (p : Nat) (d : Nat) : ∀ (i : Nat) (acc m q : Int), 0 ≤ acc → m ≤ 1000000000000 → ruv X p (d + 1) i acc = (m, q, true) → ∃ (n : Int) (S : List Int), 0 ≤ n ∧ n ≤ 1000000000000 ∧ (0 < i → 0 < n) ∧ m = acc + n * 2 ^ (7 * i) ∧ X.drop (p + i) = uv d n ++ S ∧ q = (p : Int) + i + ((uv d n).length : Int) := by
  have last : ∀ (d i : Nat) (acc m q : Int), rd X ((p + i : Nat) : Int) < 128 → ruv X p (d + 1) i acc = (m, q, true) → ∃ (n : Int) (S : List Int), 0 ≤ n ∧ n ≤ 127 ∧ (0 < i → 0 < n) ∧ m = acc + n * 2 ^ (7 * i) ∧ X.drop (p + i) = uv d n ++ S ∧ q = (p : Int) + i + ((uv d n).length : Int) := by
    intro d i acc m q hc h
    rw [ruv] at h
    by_cases c1 : (X.length : Int) ≤ (p : Int) + i
    · rw [if_pos c1] at h; simp at h
    · rw [if_neg c1, if_pos hc] at h
      have hb := rd_byte X w (p + i) (by omega)
      by_cases c2 : (0 < i ∧ rd X ((p + i : Nat) : Int) = 0) ∨ acc + rd X ((p + i : Nat) : Int) % 128 * 2 ^ (7 * i) > 1000000000000
      · rw [if_pos c2] at h; simp at h
      · rw [if_neg c2] at h
        have hm : rd X ((p + i : Nat) : Int) % 128 = rd X ((p + i : Nat) : Int) := by omega
        rw [hm] at h
        simp only [Prod.mk.injEq, and_true] at h
        refine ⟨rd X ((p + i : Nat) : Int), X.drop (p + i + 1), hb.1, by omega, fun hi => ?_, h.1.symm, ?_, ?_⟩
        · rcases Int.lt_or_eq_of_le hb.1 with h0 | h0
          · exact h0
          · exact absurd (.inl ⟨hi, h0.symm⟩) c2
        · rw [uv_small d _ hb.1 (by omega)]
          have hlt : p + i < X.length := by omega
          rw [rd_nat X (p + i) hlt]
          exact List.drop_eq_getElem_cons hlt
        · rw [uv_small d _ hb.1 (by omega)]
          simp only [List.length_cons, List.length_nil]
          omega
  induction d with
  | zero =>
    intro i acc m q ha hm h
    by_cases hc : rd X ((p + i : Nat) : Int) < 128
    · obtain ⟨n, S, h0, h1, h2⟩ := last 0 i acc m q hc h
      exact ⟨n, S, h0, by omega, h2⟩
    · rw [ruv] at h
      by_cases c1 : (X.length : Int) ≤ (p : Int) + i
      · rw [if_pos c1] at h; simp at h
      · rw [if_neg c1, if_neg hc] at h
        simp [ruv] at h
  | succ d ih =>
    intro i acc m q ha hm h
    by_cases hc : rd X ((p + i : Nat) : Int) < 128
    · obtain ⟨n, S, h0, h1, h2⟩ := last (d + 1) i acc m q hc h
      exact ⟨n, S, h0, by omega, h2⟩
    · rw [ruv] at h
      by_cases c1 : (X.length : Int) ≤ (p : Int) + i
      · rw [if_pos c1] at h; simp at h
      · rw [if_neg c1, if_neg hc] at h
        have hb := rd_byte X w (p + i) (by omega)
        have hp := pow_pos7 i
        have hnn : 0 ≤ rd X ((p + i : Nat) : Int) % 128 * 2 ^ (7 * i) := Int.mul_nonneg (by omega) (by omega)
        obtain ⟨n, S, h0, h1, h2, h3, h4, h5⟩ := ih (i + 1) _ m q (by omega) hm h
        have hn := h2 (by omega)
        have hs : acc + rd X ((p + i : Nat) : Int) % 128 * 2 ^ (7 * i) + n * 2 ^ (7 * (i + 1)) = acc + (rd X ((p + i : Nat) : Int) % 128 + 128 * n) * 2 ^ (7 * i) := by
          rw [pow7, ← Int.mul_assoc, Int.add_assoc, ← Int.add_mul]
          congr 2
          omega
        rw [hs] at h3
        have hle : rd X ((p + i : Nat) : Int) % 128 + 128 * n ≤ (rd X ((p + i : Nat) : Int) % 128 + 128 * n) * 2 ^ (7 * i) := by
          have := Int.mul_le_mul_of_nonneg_left hp (show 0 ≤ rd X ((p + i : Nat) : Int) % 128 + 128 * n by omega)
          rwa [Int.mul_one] at this
        have e1 : (rd X ((p + i : Nat) : Int) % 128 + 128 * n) % 128 + 128 = rd X ((p + i : Nat) : Int) := by omega
        have e2 : (rd X ((p + i : Nat) : Int) % 128 + 128 * n) / 128 = n := by omega
        have hu : uv (d + 1) (rd X ((p + i : Nat) : Int) % 128 + 128 * n) = rd X ((p + i : Nat) : Int) :: uv d n := by
          rw [uv_big d _ (by omega) (by omega), e1, e2]
        refine ⟨rd X ((p + i : Nat) : Int) % 128 + 128 * n, S, by omega, by omega, fun _ => by omega, h3, ?_, ?_⟩
        · have hlt : p + i < X.length := by omega
          rw [hu, List.cons_append, ← h4, rd_nat X (p + i) hlt]
          exact List.drop_eq_getElem_cons hlt
        · rw [hu, List.length_cons]
          omega
theorem ruvOf_inv (X : List Int) (w : ∀ x ∈ X, (Lit.int .u8 x).wf = true) (a m q : Int) (h : ruvOf X a = (m, q, true)) : 0 ≤ m ∧ m ≤ 1000000000000 ∧ 0 ≤ a ∧ a < q ∧ q ≤ X.length ∧ (X.take q.toNat).drop a.toNat = uv 5 m := by
  rcases ruvOf_spec X a with h' | ⟨m', q', h', h1, h2, h3, h4, h5⟩
  · rw [h] at h'; simp at h'
  · rw [h] at h'
    simp only [Prod.mk.injEq, and_true] at h'
    obtain ⟨rfl, rfl⟩ := h'
    refine ⟨h1, h2, h3, h4, h5, ?_⟩
    unfold ruvOf at h
    rw [if_pos ⟨h3, by omega⟩] at h
    obtain ⟨n, S, g0, g1, _, g3, g4, g5⟩ := ruv_inv X w a.toNat 5 0 0 m q (by omega) h2 h
    have hmn : m = n := by simpa using g3
    subst hmn
    rw [List.drop_take]
    have e : q.toNat - a.toNat = (uv 5 m).length := by omega
    rw [Nat.add_zero] at g4
    rw [e, g4, List.take_left]
theorem auv_bytes (l : List Int) (n : Int) (w : ∀ x ∈ l, (Lit.int .u8 x).wf = true) : ∀ x ∈ auvOf l n, (Lit.int .u8 x).wf = true := by
  unfold auvOf
  split
  · intro x hx
    rcases List.mem_append.1 hx with hx | hx
    · exact w x hx
    · have := uv_byte 5 n x hx
      exact to_wf8 this.1 this.2
  · exact w

theorem drv_l0 (b : List Int) (hb : b.length ≤ 1048576) (d : Nat) : ∀ (acc : List Int) (s h : Int), acc.length + d ≤ 100 → (∀ x ∈ acc, (Lit.int .u8 x).wf = true) → Cur b s → ∃ (y : List Int) (o : Int), Ev (fun k => spec_DrawReadUvarint.l0 k acc (d : Int) b s h) (y, o) ∧ y.length ≤ 100 ∧ (∀ x ∈ y, (Lit.int .u8 x).wf = true) ∧ -1 ≤ o ∧ o ≤ 2 := by
  induction d with
  | zero =>
    intro acc s h ha hw hs
    obtain ⟨t, s1, h1, e1, t0, t1, c1⟩ := l1Below_ok b hb s h 4 hs
    have t1 := t1 (by decide)
    refine ⟨acc, t - 1, Ev.step (f := fun _ => some (acc, t - 1)) (fun k => ?_) (Ev.now _), by omega, hw, by omega, by omega⟩
    simp only [spec_DrawReadUvarint.l0]
    rw [if_neg (by omega), e1]
    simp only [Option.bind_some]
    rw [wrap_id (by omega) (by omega)]
  | succ d ih =>
    intro acc s h ha hw hs
    obtain ⟨x, s1, h1, e1, m, c1⟩ := l1Int_ok b hb s h [128, 255, 0, 1, 127] (by simp) hs
    simp only [List.mem_cons, List.not_mem_nil, or_false] at m
    obtain ⟨y, o, ev, r⟩ := ih (acc ++ [x % 256]) s1 h1 (by simp; omega) (fun u hu => by
      rcases List.mem_append.1 hu with hu | hu
      · exact hw u hu
      · rw [List.mem_singleton.1 hu]; exact to_wf8 (by omega) (by omega)) c1
    refine ⟨y, o, Ev.step (f := fun k => spec_DrawReadUvarint.l0 k (acc ++ [x % 256]) (d : Int) b s1 h1) (fun k => ?_) ev, r⟩
    simp only [spec_DrawReadUvarint.l0]
    rw [if_pos (by omega), e1]
    simp only [Option.bind_some]
    rw [if_pos (by omega), wrap_id (by omega) (by omega), show ((d + 1 : Nat) : Int) - 1 = (d : Int) by omega]
theorem drv_ev (l0 : List Int) (hl : l0.length ≤ 1048576) : ∃ (y : List Int) (o : Int), Ev (fun k => spec_DrawReadUvarint.f k l0) (y, o) ∧ y.length ≤ 100 ∧ (∀ x ∈ y, (Lit.int .u8 x).wf = true) ∧ -1 ≤ o ∧ o ≤ 2 := by
  obtain ⟨h1, e1⟩ := l1New_ev l0 hl
  obtain ⟨t, s2, h2, e2, c2⟩ := l1Once_ok l0 hl 0 h1 2 (cur0 l0)
  cases t with
  | true =>
    obtain ⟨b, s3, h3, e3, hb, wb, c3⟩ := l1Bytes_ev l0 hl s2 h2 1 (by decide) (by decide) c2
    obtain ⟨n, s4, h4, e4, n0, n1, c4⟩ := l1Num_ok l0 hl s3 h3 c3
    have hlen := auvOf_len b n
    refine ⟨auvOf b n, 1, ?_, by omega, auv_bytes b n wb, by decide, by decide⟩
    unfold spec_DrawReadUvarint.f
    refine Ev.bind e1 ?_
    simp only [e2, Option.bind_some, if_true]
    refine Ev.bind e3 ?_
    simp only [e4, Option.bind_some]
    exact Ev.bind (specAuv_ev b n (by omega)) (Ev.now _)
  | false =>
    obtain ⟨n, s3, h3, e3, n0, n1, c3⟩ := l1Below_ok l0 hl s2 h2 8 c2
    have n1 := n1 (by decide)
    obtain ⟨y, o, ev, r⟩ := drv_l0 l0 hl n.toNat [] s3 h3 (by simp; omega) (by simp) c3
    rw [Int.toNat_of_nonneg n0] at ev
    refine ⟨y, o, ?_, r⟩
    unfold spec_DrawReadUvarint.f
    refine Ev.bind e1 ?_
    simp only [e2, e3, Option.bind_some, Bool.false_eq_true, if_false]
    exact ev
theorem j1_ev (l0 : List Int) (hl : l0.length ≤ 1048576) : Ev (fun k => laws_FnVarints.j1 k l0) true := by
  obtain ⟨y, o, ev, hy, wy, o0, o1⟩ := drv_ev l0 hl
  refine Ev.step (fun k => laws_FnVarints.j1.eq_2 _ _) ?_
  refine Ev.bind ev ?_
  refine Ev.bind (implRuv_ev y o (by omega) wy) ?_
  rcases ruvOf_spec y o with h | ⟨m, q, h, h1, h2, h3, h4, h5⟩
  · simp only [h, Bool.false_eq_true, if_false]
    refine Ev.bind (specRuv_ev y o (by omega) wy (to_wf64 (by omega) (by omega))) ?_
    simp only [h, if_true, Bool.not_false]
    exact Ev.now true
  · obtain ⟨_, _, _, _, _, hi⟩ := ruvOf_inv y wy o m q h
    simp only [h, if_true, if_pos (show o ≥ 0 by omega), if_pos h5, if_pos h4, if_pos (show o ≤ q by omega)]
    refine Ev.bind (implAuv_ev [] m (by simp)) ?_
    have ha : auvOf [] m = uv 5 m := by unfold auvOf; rw [if_pos ⟨h1, h2⟩, List.nil_append]
    rw [ha, hi]
    have := uv_len 5 m
    exact Ev.bind (sameBytes_self (uv 5 m) (by omega)) (Ev.now _)
theorem FnVarints : laws_FnVarints.Pure := by
  intro l0 _ _ w0
  refine Ev.rounds ?_
  unfold laws_FnVarints.f
  simp only [big_eq, Option.bind_some]
  by_cases cb : (l0.length : Int) > 1048576
  · simp only [decide_eq_true cb, if_true]; exact Ev.now true
  have b_l0 : l0.length ≤ 1048576 := by omega
  simp only [decide_eq_false cb, Bool.false_eq_true, if_false]
  obtain ⟨h1, e1⟩ := l1New_ev l0 b_l0
  obtain ⟨n, s2, h2, e2, n0, n1, c2⟩ := l1Below_ok l0 b_l0 0 h1 3 (cur0 l0)
  have n2 := n1 (by decide)
  obtain ⟨b, s3, h3, e3, hb, wb, c3⟩ := l1Bytes_ev l0 b_l0 s2 h2 n n0 (by omega) c2
  obtain ⟨x, s4, h4, e4, x0, x1, c4⟩ := l1One_ok l0 b_l0 s3 h3 c3
  have hd : Ev (fun k => spec_DrawAppendUvarint.f k l0) (b, x) := by
    unfold spec_DrawAppendUvarint.f
    refine Ev.bind e1 ?_
    simp only [e2, Option.bind_some]
    refine Ev.bind e3 ?_
    simp only [e4, Option.bind_some]
    exact Ev.now _
  have hlen := auvOf_len b x
  refine Ev.bind hd ?_
  refine Ev.bind (implAuv_ev b x (by omega)) ?_
  refine Ev.bind (implRuv_ev (auvOf b x) (b.length : Int) (by omega) (auv_bytes b x wb)) ?_
  by_cases hin : 0 ≤ x ∧ x ≤ 1000000000000
  · have ha : auvOf b x = b ++ uv 5 x := by unfold auvOf; rw [if_pos hin]
    have hr : ruvOf (auvOf b x) (b.length : Int) = (x, ((auvOf b x).length : Int), true) := by
      have := ruvOf_uv b [] x hin.1 hin.2
      rw [List.append_nil, ← ha] at this
      rw [this, ha, List.length_append]
      congr 2
    simp only [hr, if_neg (show ¬ (x < 0) by omega), decide_eq_false (show ¬ (x > 1000000000000) by omega)]
    refine Ev.step (fun k => laws_FnVarints.j0.eq_2 _ _ _ _ _ _ _ _ _) ?_
    simp only [Bool.false_eq_true, if_false, if_true]
    exact j1_ev l0 b_l0
  · have ha : auvOf b x = b := by unfold auvOf; rw [if_neg hin]
    have hr : ruvOf (auvOf b x) (b.length : Int) = (0, 0, false) := by rw [ha]; unfold ruvOf; rw [if_neg (by omega)]
    simp only [hr]
    have hj : Ev (fun k => laws_FnVarints.j0 k l0 b x (auvOf b x) 0 0 false true) true := by
      refine Ev.step (fun k => laws_FnVarints.j0.eq_2 _ _ _ _ _ _ _ _ _) ?_
      simp only [if_true, Bool.false_eq_true, if_false]
      rw [ha]
      refine Ev.bind (sameBytes_self b (by omega)) ?_
      simp only [if_true]
      exact j1_ev l0 b_l0
    by_cases h0 : x < 0
    · simp only [if_pos h0]; exact hj
    · simp only [if_neg h0, decide_eq_true (show x > 1000000000000 by omega)]; exact hj

end Go.Proofs.Ytneiadniopmcnaa.Pure
