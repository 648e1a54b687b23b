/-
  Changing one value modulo Modulus changes the keyed hash, and derived keys are valid, at every drawn input.
  Conditions: none beside the given statement's own.
-/
import Derived.Test.YtneiadniopmcnaaPFnKeyedHashx3
set_option linter.unusedSimpArgs false
set_option linter.unusedVariables false
namespace Go.Proofs.Ytneiadniopmcnaa.Pure
open Go.RowKit Go.Proofs.Ytneiadniopmcnaa.PFnKeyedHash Go.Proofs.YtneiadniopmcnaaW.PrintWords Go.Proofs.YtneiadniopmcnaaW.PrintLast Go.Proofs.YtneiadniopmcnaaW.PrintMore

theorem wrap_id {x : Int} (h1 : -9223372036854775808 ≤ x) (h2 : x < 9223372036854775808) : wrap64 x = x := by unfold wrap64; omega
theorem rd_nat (l : List Int) (i : Nat) (h : i < l.length) : rd l (i : Int) = l[i] := by
  unfold rd; rw [Int.toNat_natCast, List.getD_eq_getElem?_getD, List.getElem?_eq_getElem h]; rfl
theorem wf64 {x : Int} (h : (Lit.int .i64 x).wf = true) : -9223372036854775808 ≤ x ∧ x < 9223372036854775808 := by
  have h1 : IntKind.i64.min = -9223372036854775808 := by decide
  have h2 : IntKind.i64.max = 9223372036854775807 := by decide
  simp only [Lit.wf, h1, h2, Bool.and_eq_true, decide_eq_true_eq] at h
  omega
theorem wf8 {x : Int} (h : (Lit.int .u8 x).wf = true) : 0 ≤ x ∧ x < 256 := by
  have h1 : IntKind.u8.min = 0 := by decide
  have h2 : IntKind.u8.max = 255 := by decide
  simp only [Lit.wf, h1, h2, Bool.and_eq_true, decide_eq_true_eq] at h
  omega
theorem set_take (l x : List Int) (i : Nat) (h : i < l.length) (hx : x.length = l.length) (ht : x.take i = l.take i) : (x.set i l[i]).take (i + 1) = l.take (i + 1) := by
  apply List.ext_getElem?
  intro j
  simp only [List.getElem?_take, List.getElem?_set]
  have hj : (x.take i)[j]? = (l.take i)[j]? := by rw [ht]
  simp only [List.getElem?_take] at hj
  by_cases h1 : j < i + 1
  · rw [if_pos h1, if_pos h1]
    by_cases h2 : i = j
    · subst h2; rw [if_pos rfl, if_pos (by omega), List.getElem?_eq_getElem h]
    · rw [if_neg h2]; rw [if_pos (by omega), if_pos (by omega)] at hj; exact hj
  · rw [if_neg h1, if_neg h1]
theorem drop_eq_cons (l : List Int) (i : Nat) (h : i < l.length) : l.drop i = l[i] :: l.drop (i + 1) := List.drop_eq_getElem_cons h
theorem cons_iff {a b : Int} (e : a = b) (l x : List Int) : (a :: l = b :: x) ↔ l = x := by
  rw [e]
  exact ⟨fun h => (List.cons.inj h).2, fun h => by rw [h]⟩
theorem take_full (l x : List Int) (i : Nat) (hi : l.length ≤ i) (hx : x.length = l.length) (ht : x.take i = l.take i) : x = l := by
  rwa [List.take_of_length_le (by omega), List.take_of_length_le hi] at ht

theorem to_wf8 {x : Int} (h0 : 0 ≤ x) (h1 : x < 256) : (Lit.int .u8 x).wf = true := by
  have h1 : IntKind.u8.min = 0 := by decide
  have h2 : IntKind.u8.max = 255 := by decide
  simp only [Lit.wf, h1, h2, Bool.and_eq_true, decide_eq_true_eq]
  omega
theorem to_wf64 {x : Int} (h0 : -9223372036854775808 ≤ x) (h1 : x < 9223372036854775808) : (Lit.int .i64 x).wf = true := by
  have h1 : IntKind.i64.min = -9223372036854775808 := by decide
  have h2 : IntKind.i64.max = 9223372036854775807 := by decide
  simp only [Lit.wf, h1, h2, Bool.and_eq_true, decide_eq_true_eq]
  omega

theorem InRange_eq (a b c : Int) : impl_InRange.f a b c = some (decide (b ≤ a ∧ a ≤ c)) := by
  unfold impl_InRange.f
  by_cases h : b ≤ a
  · rw [if_pos h]; congr 1; by_cases h2 : a ≤ c <;> simp [h2] <;> omega
  · rw [if_neg h]; congr 1; simp; omega

theorem l1In_eq (a b c : Int) : spec_l1In.f a b c = some (decide (b ≤ a ∧ a ≤ c)) := by
  unfold spec_l1In.f
  by_cases h : a ≥ b
  · rw [if_pos h]; congr 1; by_cases h2 : a ≤ c <;> simp [h2] <;> omega
  · rw [if_neg h]; congr 1; simp; omega

theorem big_eq (l : List Int) : laws_big.f l = some (decide ((l.length : Int) > 1048576)) := rfl

theorem and255 (x : Int) : 0 ≤ Go.bits .and .i64 x 255 ∧ Go.bits .and .i64 x 255 ≤ 255 := by
  have h : (BitVec.ofInt IntKind.i64.bits x &&& BitVec.ofInt IntKind.i64.bits 255).toNat ≤ 255 := by
    rw [BitVec.toNat_and]
    exact Nat.le_trans Nat.and_le_right (by decide)
  have e : Go.bits .and .i64 x 255 = IntKind.i64.wrap ((BitVec.ofInt IntKind.i64.bits x &&& BitVec.ofInt IntKind.i64.bits 255).toNat : Int) := rfl
  rw [e, Go.IntKind.wrap_i64]
  omega
/-- The cursor of a draw lies in its bytes. -/
def Cur (b : List Int) (s : Int) : Prop := 0 ≤ s ∧ s ≤ b.length
theorem l1Byte_ok (b : List Int) (hb : b.length ≤ 1048576) (s h : Int) (hs : Cur b s) : ∃ x s' h', spec_l1Byte.f b s h = some (x, s', h') ∧ 0 ≤ x ∧ x ≤ 255 ∧ Cur b s' := by
  have hs0 := hs.1
  have hs1 := hs.2
  unfold spec_l1Byte.f
  by_cases c : s < (b.length : Int)
  · rw [if_pos c, if_pos hs.1]
    have hw : wrap64 (s + 1) = s + 1 := wrap_id (by omega) (by omega)
    rw [hw]
    exact ⟨_, _, _, rfl, (and255 _).1, (and255 _).2, ⟨by omega, by omega⟩⟩
  · rw [if_neg c]
    exact ⟨_, _, _, rfl, (and255 _).1, (and255 _).2, hs⟩
theorem l1Below_ok (b : List Int) (hb : b.length ≤ 1048576) (s h n : Int) (hs : Cur b s) : ∃ x s' h', spec_l1Below.f b s h n = some (x, s', h') ∧ 0 ≤ x ∧ (0 < n → x < n) ∧ Cur b s' := by
  unfold spec_l1Below.f
  by_cases c : n ≤ 0
  · rw [if_pos c]; exact ⟨0, s, h, rfl, by omega, fun h => by omega, hs⟩
  · rw [if_neg c]
    by_cases c2 : n ≤ 256
    · rw [if_pos c2]
      obtain ⟨x, s', h', e, h0, h1, hc⟩ := l1Byte_ok b hb s h hs
      rw [e]
      simp only [Option.bind_some]
      rw [if_neg (by omega), Int.tmod_eq_emod_of_nonneg h0]
      exact ⟨_, _, _, rfl, Int.emod_nonneg _ (by omega), fun h => Int.emod_lt_of_pos _ h, hc⟩
    · rw [if_neg c2]
      obtain ⟨x, s1, h1, e1, a0, a1, hc1⟩ := l1Byte_ok b hb s h hs
      obtain ⟨y, s2, h2, e2, b0, b1, hc2⟩ := l1Byte_ok b hb s1 h1 hc1
      obtain ⟨z, s3, h3, e3, d0, d1, hc3⟩ := l1Byte_ok b hb s2 h2 hc2
      simp only [e1, e2, e3, Option.bind_some]
      rw [if_neg (by omega), wrap_id (x := x * 65536) (by omega) (by omega), wrap_id (x := y * 256) (by omega) (by omega), wrap_id (x := x * 65536 + y * 256) (by omega) (by omega), wrap_id (x := x * 65536 + y * 256 + z) (by omega) (by omega), Int.tmod_eq_emod_of_nonneg (by omega)]
      exact ⟨_, _, _, rfl, Int.emod_nonneg _ (by omega), fun h => Int.emod_lt_of_pos _ h, hc3⟩
theorem l1New_l0 (l : List Int) (hl : l.length ≤ 1048576) (d : Nat) : ∀ (i : Nat) (h : Int), l.length - i = d → ∃ h', Ev (fun k => spec_l1New.l0 k l h (i : Int)) (l, 0, h') := by
  induction d with
  | zero =>
    intro i h hd
    refine ⟨h, Ev.step (f := fun _ => some (l, 0, h)) (fun k => ?_) (Ev.now _)⟩
    simp only [spec_l1New.l0]
    rw [if_neg (by omega)]
  | succ d ih =>
    intro i h hd
    by_cases c : (i : Int) < 4000
    · obtain ⟨h', e⟩ := ih (i + 1) (Go.bits .and .i64 (wrap64 ((wrap64 ((wrap64 (h * 137)) + (wrap64 (rd l (i : Int))))) + 11)) 1073741823) (by omega)
      refine ⟨h', Ev.step (f := fun k => spec_l1New.l0 k l _ ((i + 1 : Nat) : Int)) (fun k => ?_) e⟩
      simp only [spec_l1New.l0]
      rw [if_pos (by omega), if_pos c, if_pos (by omega), wrap_id (x := (i : Int) + 1) (by omega) (by omega)]
      rfl
    · refine ⟨h, Ev.step (f := fun _ => some (l, 0, h)) (fun k => ?_) (Ev.now _)⟩
      simp only [spec_l1New.l0]
      rw [if_pos (by omega), if_neg c]
theorem l1New_ev (l : List Int) (hl : l.length ≤ 1048576) : ∃ h', Ev (fun k => spec_l1New.f k l) (l, 0, h') := l1New_l0 l hl l.length 0 _ (by omega)
theorem cur0 (l : List Int) : Cur l 0 := ⟨by omega, by omega⟩

theorem l1Once_ok (b : List Int) (hb : b.length ≤ 1048576) (s h n : Int) (hs : Cur b s) : ∃ (t : Bool) (s' h' : Int), spec_l1Once.f b s h n = some (t, s', h') ∧ Cur b s' := by
  obtain ⟨x, s', h', e, _, _, hc⟩ := l1Below_ok b hb s h n hs
  unfold spec_l1Once.f
  rw [e]
  exact ⟨_, s', h', rfl, hc⟩

theorem l1Int_ok (b : List Int) (hb : b.length ≤ 1048576) (s h : Int) (l : List Int) (hl : 0 < l.length) (hs : Cur b s) : ∃ x s' h', spec_l1Int.f b s h l = some (x, s', h') ∧ x ∈ l ∧ Cur b s' := by
  obtain ⟨x, s', h', e, h0, h1, hc⟩ := l1Below_ok b hb s h (l.length : Int) hs
  have h1 := h1 (by omega)
  unfold spec_l1Int.f
  rw [e]
  simp only [Option.bind_some]
  rw [if_pos h0, if_pos h1]
  refine ⟨_, s', h', rfl, ?_, hc⟩
  have hx : x.toNat < l.length := by omega
  have := rd_nat l x.toNat hx
  rw [Int.toNat_of_nonneg h0] at this
  rw [this]
  exact List.getElem_mem hx

theorem l3Word_ok (b : List Int) (hb : b.length ≤ 1048576) (s h : Int) (hs : Cur b s) : ∃ x s' h', spec_l3Word.f b s h = some (x, s', h') ∧ -1 ≤ x ∧ x ≤ 2147483648 ∧ Cur b s' := by
  unfold spec_l3Word.f
  obtain ⟨t, s1, h1, e1, c1⟩ := l1Once_ok b hb s h 10 hs
  simp only [e1, Option.bind_some]
  cases t with
  | true =>
    obtain ⟨x, s2, h2, e2, m, c2⟩ := l1Int_ok b hb s1 h1 [(-1), 2147483647, 2147483648] (by simp) c1
    simp only [e2, Option.bind_some, if_true]
    simp only [List.mem_cons, List.not_mem_nil, or_false] at m
    exact ⟨x, s2, h2, rfl, by omega, by omega, c2⟩
  | false =>
    simp only [Bool.false_eq_true, if_false]
    obtain ⟨t, s2, h2, e2, c2⟩ := l1Once_ok b hb s1 h1 4 c1
    simp only [e2, Option.bind_some]
    cases t with
    | true =>
      obtain ⟨x, s3, h3, e3, m, c3⟩ := l1Int_ok b hb s2 h2 [0, 1, 2147483646] (by simp) c2
      simp only [e3, Option.bind_some, if_true]
      simp only [List.mem_cons, List.not_mem_nil, or_false] at m
      exact ⟨x, s3, h3, rfl, by omega, by omega, c3⟩
    | false =>
      simp only [Bool.false_eq_true, if_false]
      obtain ⟨x, s3, h3, e3, p0, p1, c3⟩ := l1Below_ok b hb s2 h2 1000000 c2
      obtain ⟨y, s4, h4, e4, q0, q1, c4⟩ := l1Below_ok b hb s3 h3 2000 c3
      simp only [e3, e4, Option.bind_some]
      have p1 := p1 (by decide)
      have q1 := q1 (by decide)
      have m0 : 0 ≤ x * y := Int.mul_nonneg p0 q0
      have m1 : x * y ≤ 999999 * 1999 := Int.mul_le_mul (by omega) (by omega) q0 (by decide)
      rw [wrap_id (x := x * y) (by omega) (by omega)]
      exact ⟨x * y, s4, h4, rfl, by omega, by omega, c4⟩

theorem Mod_some (a b : Int) : ∃ r, impl_Mod.f a b = some r := by
  unfold impl_Mod.f
  simp only [InRange_eq, Option.bind_some]
  split
  · rename_i h
    simp at h
    rw [if_neg (by omega)]
    exact ⟨_, rfl⟩
  · exact ⟨_, rfl⟩

def hashFrom : List Int → Int → Int
  | [], s => s
  | a :: l, s => hashFrom l (Int.tmod (wrap64 (wrap64 (wrap64 (s * 1000003) + Int.tmod (wrap64 (Int.tmod a 2147483647 + 2147483647)) 2147483647) + 13)) 2147483647)
theorem Mod_mod (a : Int) : impl_Mod.f a 2147483647 = some (Int.tmod (wrap64 (Int.tmod a 2147483647 + 2147483647)) 2147483647) := by
  unfold impl_Mod.f
  simp only [InRange_eq, Option.bind_some]
  rw [if_pos (by decide), if_neg (by decide)]

theorem implHash_l0 (l : List Int) (hl : l.length ≤ 4194304) (d : Nat) : ∀ (i : Nat) (s : Int), l.length - i = d → Ev (fun k => impl_Hash.l0 k s l (l.length : Int) (i : Int)) (hashFrom (l.drop i) s) := by
  induction d with
  | zero =>
    intro i s hd
    rw [List.drop_eq_nil_of_le (by omega)]
    refine Ev.step (f := fun _ => some s) (fun k => ?_) (Ev.now s)
    simp only [impl_Hash.l0]
    rw [if_neg (by omega)]
  | succ d ih =>
    intro i s hd
    have h : i < l.length := by omega
    rw [drop_eq_cons l i h]
    refine Ev.step (f := fun k => impl_Hash.l0 k _ l (l.length : Int) ((i + 1 : Nat) : Int)) (fun k => ?_) (ih (i + 1) _ (by omega))
    simp only [impl_Hash.l0]
    rw [if_pos (by omega), if_pos (by omega), if_pos (by omega), rd_nat l i h, Mod_mod, wrap_id (x := (i : Int) + 1) (by omega) (by omega)]
    rfl

theorem implHash_ev (l : List Int) (hl : l.length ≤ 4194304) : Ev (fun k => impl_Hash.f k l) (hashFrom l 11) := by
  have := implHash_l0 l hl l.length 0 11 (by omega)
  unfold impl_Hash.f
  exact this

theorem hash_range (l : List Int) : ∀ s, 0 ≤ s → s < 2147483647 → 0 ≤ hashFrom l s ∧ hashFrom l s < 2147483647 := by
  induction l with
  | nil => intro s h0 h1; exact ⟨h0, h1⟩
  | cons a l ih =>
    intro s h0 h1
    simp only [hashFrom]
    have hm1 : -2147483647 < Int.tmod a 2147483647 := Int.lt_tmod_of_pos a (by decide)
    have hm2 : Int.tmod a 2147483647 < 2147483647 := Int.tmod_lt_of_pos a (by decide)
    rw [wrap_id (x := Int.tmod a 2147483647 + 2147483647) (by omega) (by omega), Int.tmod_eq_emod_of_nonneg (a := Int.tmod a 2147483647 + 2147483647) (by omega)]
    rw [wrap_id (x := s * 1000003) (by omega) (by omega), wrap_id (x := s * 1000003 + _) (by omega) (by omega), wrap_id (x := s * 1000003 + _ + 13) (by omega) (by omega), Int.tmod_eq_emod_of_nonneg (by omega)]
    exact ih _ (by omega) (by omega)
def kh (a i : Int) : Int := hashFrom ([a] ++ [i] ++ [a]) 11
theorem kh_range (a i : Int) : 0 ≤ kh a i ∧ kh a i < 2147483647 := hash_range _ 11 (by decide) (by decide)

theorem implKeyed_ev (a : Int) (l : List Int) (hl : l.length ≤ 2097152) : Ev (fun k => impl_KeyedHash.f k a l) (hashFrom ([a] ++ l ++ [a]) 11) := by
  unfold impl_KeyedHash.f
  simp only [Option.bind_some]
  simp only [if_pos (show ([a] : List Int).length + l.length < 17592186044416 by simp; omega), if_pos (show ([a] ++ l).length < 17592186044416 by simp; omega)]
  exact Ev.bind (implHash_ev _ (by simp; omega)) (Ev.now _)
theorem implBytesToInts_l0 (l : List Int) (hl : l.length ≤ 1048576) (w : ∀ x ∈ l, (Lit.int .u8 x).wf = true) (d : Nat) : ∀ (i : Nat) (acc : List Int), l.length - i = d → acc.length = i + 1 → Ev (fun k => impl_BytesToInts.l0 k acc l (l.length : Int) (i : Int)) (acc ++ l.drop i) := by
  induction d with
  | zero =>
    intro i acc hd ha
    rw [List.drop_eq_nil_of_le (by omega), List.append_nil]
    refine Ev.step (f := fun _ => some acc) (fun k => ?_) (Ev.now acc)
    simp only [impl_BytesToInts.l0]
    rw [if_neg (by omega)]
  | succ d ih =>
    intro i acc hd ha
    have h : i < l.length := by omega
    have hw := wf8 (w _ (List.getElem_mem h))
    rw [drop_eq_cons l i h, List.append_cons]
    refine Ev.step (f := fun k => impl_BytesToInts.l0 k (acc ++ [l[i]]) l (l.length : Int) ((i + 1 : Nat) : Int)) (fun k => ?_) (ih (i + 1) (acc ++ [l[i]]) (by omega) (by simp [ha]))
    simp only [impl_BytesToInts.l0]
    rw [if_pos (by omega), if_pos (by omega), if_pos (by omega), if_pos (by omega), rd_nat l i h, wrap_id (x := l[i]) (by omega) (by omega), wrap_id (x := (i : Int) + 1) (by omega) (by omega)]
    rfl
theorem implBytesToInts_ev (l : List Int) (hl : l.length ≤ 1048576) (w : ∀ x ∈ l, (Lit.int .u8 x).wf = true) : Ev (fun k => impl_BytesToInts.f k l) ((l.length : Int) :: l) := by
  unfold impl_BytesToInts.f
  exact implBytesToInts_l0 l hl w l.length 0 [(l.length : Int)] (by omega) rfl

theorem nums_bytes (s : ByteArray) : ∀ x ∈ impl_DeriveFromString.nums s, (Lit.int .u8 x).wf = true := by
  intro x hx
  unfold impl_DeriveFromString.nums at hx
  obtain ⟨b, _, rfl⟩ := List.mem_map.1 hx
  have := b.toNat_lt
  exact to_wf8 (by omega) (by omega)
def dfs (a : Int) (s : ByteArray) : Int := hashFrom ([a] ++ (((impl_DeriveFromString.nums s).length : Int) :: impl_DeriveFromString.nums s) ++ [a]) 11
theorem dfs_range (a : Int) (s : ByteArray) : 0 ≤ dfs a s ∧ dfs a s < 2147483647 := hash_range _ 11 (by decide) (by decide)
theorem implDfs_ev (a : Int) (s : ByteArray) (hs : s.size ≤ 1048576) : Ev (fun k => impl_DeriveFromString.f k a s) (if dfs a s = 0 then 1 else dfs a s) := by
  have hl := impl_DeriveFromString.nums_len s
  unfold impl_DeriveFromString.f
  simp only [if_pos (show s.size ≤ 140737488351232 by omega)]
  refine Ev.bind (implBytesToInts_ev _ (by omega) (nums_bytes s)) ?_
  refine Ev.bind (implKeyed_ev a _ (by simp only [List.length_cons]; omega)) ?_
  show Ev (fun k => if dfs a s = 0 then some 1 else some (dfs a s)) _
  split <;> exact Ev.now _

theorem rd_byte' (l : List Int) (w : ∀ x ∈ l, (Lit.int .u8 x).wf = true) (p : Nat) (h : p < l.length) : 0 ≤ rd l (p : Int) ∧ rd l (p : Int) < 256 := by
  rw [rd_nat l p h]
  exact wf8 (w _ (List.getElem_mem h))
theorem at_ok (l : List Int) (hl : l.length ≤ 1048576) (w : ∀ x ∈ l, (Lit.int .u8 x).wf = true) (i : Nat) (hi : i ≤ 100) : ∃ x, laws_at.f l (i : Int) = some x ∧ 0 ≤ x ∧ x ≤ 255 := by
  unfold laws_at.f
  by_cases c : (i : Int) < (l.length : Int)
  · rw [if_pos c, if_pos (by omega)]
    have := rd_byte' l w i (by omega)
    rw [wrap_id (by omega) (by omega)]
    exact ⟨_, rfl, by omega, by omega⟩
  · rw [if_neg c, wrap_id (x := (i : Int) * 31) (by omega) (by omega), wrap_id (x := (l.length : Int) * 7) (by omega) (by omega), wrap_id (by omega) (by omega), Int.tmod_eq_emod_of_nonneg (by omega)]
    exact ⟨_, rfl, by omega, by omega⟩

theorem l1Str_ok (b : List Int) (hb : b.length ≤ 1048576) (s h : Int) (l : List ByteArray) (hl : 0 < l.length) (hs : Cur b s) : ∃ x s' h', spec_l1Str.f b s h l = some (x, s', h') ∧ x ∈ l ∧ Cur b s' := by
  obtain ⟨x, s', h', e, h0, h1, hc⟩ := l1Below_ok b hb s h (l.length : Int) hs
  have h1 := h1 (by omega)
  unfold spec_l1Str.f
  rw [e]
  simp only [Option.bind_some]
  rw [if_pos h0, if_pos h1]
  refine ⟨_, s', h', rfl, ?_, hc⟩
  have hx : x.toNat < l.length := by omega
  unfold rdOf
  rw [List.getD_eq_getElem?_getD, List.getElem?_eq_getElem hx]
  exact List.getElem_mem hx
theorem l3Words_l0 (b : List Int) (hb : b.length ≤ 1048576) (d : Nat) : ∀ (acc : List Int) (s h : Int), acc.length + d ≤ 100 → (∀ x ∈ acc, -1 ≤ x ∧ x ≤ 2147483648) → Cur b s → ∃ out s' h', Ev (fun k => spec_l3Words.l0 k acc (d : Int) b s h) (out, s', h') ∧ out.length = acc.length + d ∧ (∀ x ∈ out, -1 ≤ x ∧ x ≤ 2147483648) ∧ Cur b s' := by
  induction d with
  | zero =>
    intro acc s h ha hw hs
    refine ⟨acc, s, h, Ev.step (f := fun _ => some (acc, s, h)) (fun k => ?_) (Ev.now _), by omega, hw, hs⟩
    simp only [spec_l3Words.l0]
    rw [if_neg (by omega)]
  | succ d ih =>
    intro acc s h ha hw hs
    obtain ⟨x, s1, h1, e1, x0, x1, c1⟩ := l3Word_ok b hb s h hs
    obtain ⟨out, s', h', ev, r1, r2, r3⟩ := ih (acc ++ [x]) s1 h1 (by simp; omega) (fun u hu => by
      rcases List.mem_append.1 hu with hu | hu
      · exact hw u hu
      · rw [List.mem_singleton.1 hu]; exact ⟨x0, x1⟩) c1
    refine ⟨out, s', h', Ev.step (f := fun k => spec_l3Words.l0 k (acc ++ [x]) (d : Int) b s1 h1) (fun k => ?_) ev, by rw [r1]; simp; omega, r2, r3⟩
    simp only [spec_l3Words.l0]
    rw [if_pos (by omega), e1]
    simp only [Option.bind_some]
    rw [if_pos (by omega), wrap_id (by omega) (by omega), show ((d + 1 : Nat) : Int) - 1 = (d : Int) by omega]
theorem dkh_ev (l0 : List Int) (hl : l0.length ≤ 1048576) : ∃ (key : Int) (l : List Int), Ev (fun k => spec_DrawKeyedHash.f k l0) (key, l) ∧ l.length ≤ 4 ∧ ∀ x ∈ l, -1 ≤ x ∧ x ≤ 2147483648 := by
  obtain ⟨h1, e1⟩ := l1New_ev l0 hl
  obtain ⟨key, s2, h2, e2, _, _, c2⟩ := l3Word_ok l0 hl 0 h1 (cur0 l0)
  obtain ⟨n, s3, h3, e3, n0, n1, c3⟩ := l1Below_ok l0 hl s2 h2 5 c2
  have n1 := n1 (by decide)
  obtain ⟨out, s4, h4, e4, r1, r2, _⟩ := l3Words_l0 l0 hl n.toNat [] s3 h3 (by simp; omega) (by simp) c3
  rw [Int.toNat_of_nonneg n0] at e4
  refine ⟨key, out, ?_, by simp at r1; omega, r2⟩
  unfold spec_DrawKeyedHash.f
  refine Ev.bind e1 ?_
  simp only [e2, Option.bind_some]
  have ew : Ev (fun k => spec_l3Words.f k l0 s2 h2) (out, s4, h4) := by
    unfold spec_l3Words.f
    simp only [e3, Option.bind_some]
    exact e4
  exact Ev.bind ew (Ev.now _)
theorem ddf_ev (l0 : List Int) (hl : l0.length ≤ 1048576) : ∃ (key : Int) (s : ByteArray), Ev (fun k => spec_DrawDeriveFromString.f k l0) (key, s) ∧ s.size ≤ 100 := by
  obtain ⟨h1, e1⟩ := l1New_ev l0 hl
  obtain ⟨key, s2, h2, e2, _, _, c2⟩ := l3Word_ok l0 hl 0 h1 (cur0 l0)
  obtain ⟨s, s4, h4, es, hm, c4⟩ := l1Str_ok l0 hl s2 h2 [(⟨#[]⟩ : ByteArray), (⟨#[97]⟩ : ByteArray), (⟨#[98]⟩ : ByteArray), (⟨#[97, 98]⟩ : ByteArray), (⟨#[110, 101, 119, 115]⟩ : ByteArray), (⟨#[120]⟩ : ByteArray)] (by simp) c2
  have hs : s.size ≤ 100 := by
    simp only [List.mem_cons, List.not_mem_nil, or_false] at hm
    rcases hm with rfl | rfl | rfl | rfl | rfl | rfl <;> decide
  refine ⟨key, s, ?_, hs⟩
  unfold spec_DrawDeriveFromString.f
  refine Ev.bind e1 ?_
  simp only [e2, es, Option.bind_some]
  exact Ev.now _

/-- One step of the hash, on what it is modulo the modulus. -/
theorem hash_step (a s : Int) (h0 : 0 ≤ s) (h1 : s < 2147483647) : Int.tmod (wrap64 (wrap64 (wrap64 (s * 1000003) + Int.tmod (wrap64 (Int.tmod a 2147483647 + 2147483647)) 2147483647) + 13)) 2147483647 = (s * 1000003 + a % 2147483647 + 13) % 2147483647 := by
  have hm1 : -2147483647 < Int.tmod a 2147483647 := Int.lt_tmod_of_pos a (by decide)
  have hm2 : Int.tmod a 2147483647 < 2147483647 := Int.tmod_lt_of_pos a (by decide)
  have hm3 := Int.tmod_add_mul_tdiv a 2147483647
  have e1 : wrap64 (Int.tmod a 2147483647 + 2147483647) = Int.tmod a 2147483647 + 2147483647 := wrap_id (by omega) (by omega)
  have e2 : Int.tmod (Int.tmod a 2147483647 + 2147483647) 2147483647 = a % 2147483647 := by
    rw [Int.tmod_eq_emod_of_nonneg (by omega)]
    omega
  have e3 : wrap64 (s * 1000003) = s * 1000003 := wrap_id (by omega) (by omega)
  have e4 : wrap64 (s * 1000003 + a % 2147483647) = s * 1000003 + a % 2147483647 := wrap_id (by omega) (by omega)
  have e5 : wrap64 (s * 1000003 + a % 2147483647 + 13) = s * 1000003 + a % 2147483647 + 13 := wrap_id (by omega) (by omega)
  rw [e1, e2, e3, e4, e5, Int.tmod_eq_emod_of_nonneg (by omega)]
theorem step_range (a s : Int) : 0 ≤ (s * 1000003 + a % 2147483647 + 13) % 2147483647 ∧ (s * 1000003 + a % 2147483647 + 13) % 2147483647 < 2147483647 := by omega
theorem mul_inj (s t : Int) (h0 : 0 ≤ s) (h1 : s < 2147483647) (g0 : 0 ≤ t) (g1 : t < 2147483647) (e : (s * 1000003) % 2147483647 = (t * 1000003) % 2147483647) : s = t := by
  have h2 : ((s - t) * 1000003) % 2147483647 = 0 := by
    rw [Int.sub_mul]
    exact Int.emod_eq_emod_iff_emod_sub_eq_zero.1 e
  have hd : (2147483647 : Int) ∣ (s - t) * 1000003 := Int.dvd_of_emod_eq_zero h2
  have hd2 : (2147483647 : Int) ∣ (s - t) := by
    have hg : Int.gcd 2147483647 1000003 = 1 := by decide +kernel
    have h3 : (2147483647 : Int) ∣ (s - t) * Int.gcd 2147483647 1000003 := Int.dvd_mul_gcd_iff_dvd_mul.2 hd
    rw [hg] at h3
    simpa using h3
  clear hd h2 e
  obtain ⟨c, hc⟩ := hd2
  omega
theorem hash_inj (l : List Int) : ∀ s t, 0 ≤ s → s < 2147483647 → 0 ≤ t → t < 2147483647 → hashFrom l s = hashFrom l t → s = t := by
  induction l with
  | nil => intro s t _ _ _ _ h; exact h
  | cons a l ih =>
    intro s t s0 s1 t0 t1 h
    simp only [hashFrom] at h
    rw [hash_step a s s0 s1, hash_step a t t0 t1] at h
    have h2 := ih _ _ (step_range a s).1 (step_range a s).2 (step_range a t).1 (step_range a t).2 h
    apply mul_inj s t s0 s1 t0 t1
    generalize s * 1000003 = u at h2 ⊢
    generalize t * 1000003 = v at h2 ⊢
    omega
theorem hash_app (l x : List Int) : ∀ s, hashFrom (l ++ x) s = hashFrom x (hashFrom l s) := by
  induction l with
  | nil => intro s; rfl
  | cons a l ih => intro s; simp only [List.cons_append, hashFrom]; exact ih _
/-- A number changed modulo the modulus changes the hash. -/
theorem hash_change (P S : List Int) (a b s : Int) (s0 : 0 ≤ s) (s1 : s < 2147483647) (hab : a % 2147483647 ≠ b % 2147483647) : hashFrom (P ++ b :: S) s ≠ hashFrom (P ++ a :: S) s := by
  intro h
  rw [hash_app, hash_app] at h
  have hr := hash_range P s s0 s1
  simp only [hashFrom] at h
  rw [hash_step b _ hr.1 hr.2, hash_step a _ hr.1 hr.2] at h
  have h2 := hash_inj S _ _ (step_range b _).1 (step_range b _).2 (step_range a _).1 (step_range a _).2 h
  generalize hashFrom P s * 1000003 = u at h2
  omega

theorem specMod_val (a : Int) (h0 : -9223372036854775808 ≤ a) (h1 : a < 9223372036854775808) : spec_Mod.f a 2147483647 = some (a % 2147483647) := by
  unfold spec_Mod.f
  simp only [l1In_eq, Option.bind_some]
  rw [if_pos (by decide), if_neg (by decide)]
  have hm1 : -2147483647 < Int.tmod a 2147483647 := Int.lt_tmod_of_pos a (by decide)
  have hm2 : Int.tmod a 2147483647 < 2147483647 := Int.tmod_lt_of_pos a (by decide)
  have hm3 := Int.tmod_add_mul_tdiv a 2147483647
  rw [wrap_id (by omega) (by omega), Int.tmod_eq_emod_of_nonneg (by omega)]
  congr 1
  omega

theorem FnKeyedHash : laws_FnKeyedHash.Pure := by
  intro l0 _ _ w0
  refine Ev.rounds ?_
  unfold laws_FnKeyedHash.f
  simp only [big_eq, Option.bind_some]
  by_cases cb : (l0.length : Int) > 1048576
  · simp only [decide_eq_true cb, if_true]; exact Ev.now true
  have b_l0 : l0.length ≤ 1048576 := by omega
  simp only [decide_eq_false cb, Bool.false_eq_true, if_false]
  obtain ⟨key, l, ed, hl4, hw⟩ := dkh_ev l0 b_l0
  obtain ⟨dk, ds, ed2, hds⟩ := ddf_ev l0 b_l0
  have hr := hash_range ([key] ++ l ++ [key]) 11 (by decide) (by decide)
  have hfin : Ev (fun k => (impl_DeriveFromString.f k dk ds).bind fun t => (impl_IsValidKey.f t).bind fun u => some u) true := by
    have hd := dfs_range dk ds
    refine Ev.bind (implDfs_ev dk ds (by omega)) ?_
    have e : impl_IsValidKey.f (if dfs dk ds = 0 then 1 else dfs dk ds) = some true := by
      unfold impl_IsValidKey.f
      rw [InRange_eq, decide_eq_true (show 1 ≤ (if dfs dk ds = 0 then 1 else dfs dk ds) ∧ (if dfs dk ds = 0 then 1 else dfs dk ds) ≤ 2147483646 by split <;> omega)]
      rfl
    simp only [e, Option.bind_some]
    exact Ev.now true
  refine Ev.bind ed ?_
  refine Ev.bind (implKeyed_ev key l (by omega)) ?_
  simp only [if_neg (show ¬ (hashFrom ([key] ++ l ++ [key]) 11 < 0) by omega), if_neg (show ¬ (hashFrom ([key] ++ l ++ [key]) 11 ≥ 2147483647) by omega), Option.bind_some, if_pos (show ([key] : List Int).length + l.length < 17592186044416 by simp; omega), if_pos (show ([key] ++ l).length < 17592186044416 by simp; omega)]
  refine Ev.bind (implHash_ev ([key] ++ l ++ [key]) (by simp; omega)) ?_
  simp only [bne_self_eq_false]
  refine Ev.step (fun k => laws_FnKeyedHash.j0.eq_2 _ _ _ _ _ _) ?_
  simp only [Bool.false_eq_true, if_false]
  by_cases hp : (l.length : Int) > 0
  · obtain ⟨t0, ht0, t00, t01⟩ := at_ok l0 b_l0 w0 0 (by omega)
    obtain ⟨t1, ht1, t10, t11⟩ := at_ok l0 b_l0 w0 1 (by omega)
    have ht0' : laws_at.f l0 0 = some t0 := ht0
    have ht1' : laws_at.f l0 1 = some t1 := ht1
    simp only [if_pos hp, Option.bind_some, List.nil_append, List.length_nil, if_pos (show 0 + l.length < 17592186044416 by omega), ht0', ht1', if_neg (show ¬ ((l.length : Int) = 0) by omega)]
    rw [Int.tmod_eq_emod_of_nonneg t00]
    obtain ⟨j, hj, hjl⟩ : ∃ j : Nat, t0 % (l.length : Int) = (j : Int) ∧ j < l.length := by
      refine ⟨(t0 % (l.length : Int)).toNat, ?_, ?_⟩
      · have := Int.emod_nonneg t0 (show (l.length : Int) ≠ 0 by omega)
        omega
      · have := Int.emod_lt_of_pos t0 (show (0 : Int) < (l.length : Int) by omega)
        have := Int.emod_nonneg t0 (show (l.length : Int) ≠ 0 by omega)
        omega
    rw [hj]
    have hx := hw l[j] (List.getElem_mem hjl)
    have hwr : wrap64 (wrap64 (rd l (j : Int) + 1) + t1) = l[j] + 1 + t1 := by
      rw [rd_nat l j hjl, wrap_id (x := l[j] + 1) (by omega) (by omega), wrap_id (by omega) (by omega)]
    simp only [if_pos (show (0 : Int) ≤ (j : Int) by omega), if_pos (show (j : Int) < (l.length : Int) by omega), hwr, specMod_val (l[j] + 1 + t1) (by omega) (by omega), Option.bind_some, Int.toNat_natCast]
    refine Ev.bind (implKeyed_ev key (l.set j ((l[j] + 1 + t1) % 2147483647)) (by simp; omega)) ?_
    have hne : hashFrom ([key] ++ l.set j ((l[j] + 1 + t1) % 2147483647) ++ [key]) 11 ≠ hashFrom ([key] ++ l ++ [key]) 11 := by
      have e1 : l = l.take j ++ l[j] :: l.drop (j + 1) := by
        rw [← List.drop_eq_getElem_cons hjl, List.take_append_drop]
      have e2 : l.set j ((l[j] + 1 + t1) % 2147483647) = l.take j ++ ((l[j] + 1 + t1) % 2147483647) :: l.drop (j + 1) := by
        rw [List.set_eq_take_append_cons_drop, if_pos hjl]
      have e3 : [key] ++ l ++ [key] = ([key] ++ l.take j) ++ l[j] :: (l.drop (j + 1) ++ [key]) := by
        exact (congrArg (fun z => [key] ++ z ++ [key]) e1).trans (by simp only [List.append_assoc, List.cons_append, List.nil_append])
      have e4 : [key] ++ l.set j ((l[j] + 1 + t1) % 2147483647) ++ [key] = ([key] ++ l.take j) ++ ((l[j] + 1 + t1) % 2147483647) :: (l.drop (j + 1) ++ [key]) := by
        rw [e2]
        simp
      rw [e3, e4]
      exact hash_change _ _ _ _ 11 (by decide) (by decide) (by omega)
    simp only [if_neg hne]
    exact Ev.bind ed2 hfin
  · simp only [if_neg hp]
    exact Ev.bind ed2 hfin

end Go.Proofs.Ytneiadniopmcnaa.Pure
