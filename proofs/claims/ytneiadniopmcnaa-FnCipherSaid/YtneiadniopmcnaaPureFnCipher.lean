/-
  Decryption inverts encryption, and encryption inverts decryption, at every drawn input.
  Conditions: none beside the given statement's own.
-/
import Derived.Test.YtneiadniopmcnaaPFnCipherx3
set_option linter.unusedSimpArgs false
set_option linter.unusedVariables false
namespace Go.Proofs.Ytneiadniopmcnaa.Pure
open Go.RowKit Go.Proofs.Ytneiadniopmcnaa.PFnCipher Go.Proofs.YtneiadniopmcnaaW.PrintWords Go.Proofs.YtneiadniopmcnaaW.PrintLast Go.Proofs.YtneiadniopmcnaaW.PrintMore

theorem wrap_id {x : Int} (h1 : -9223372036854775808 ≤ x) (h2 : x < 9223372036854775808) : wrap64 x = x := by unfold wrap64; omega
theorem rd_nat (l : List Int) (i : Nat) (h : i < l.length) : rd l (i : Int) = l[i] := by
  unfold rd; rw [Int.toNat_natCast, List.getD_eq_getElem?_getD, List.getElem?_eq_getElem h]; rfl
theorem wf64 {x : Int} (h : (Lit.int .i64 x).wf = true) : -9223372036854775808 ≤ x ∧ x < 9223372036854775808 := by
  have h1 : IntKind.i64.min = -9223372036854775808 := by decide
  have h2 : IntKind.i64.max = 9223372036854775807 := by decide
  simp only [Lit.wf, h1, h2, Bool.and_eq_true, decide_eq_true_eq] at h
  omega
theorem wf8 {x : Int} (h : (Lit.int .u8 x).wf = true) : 0 ≤ x ∧ x < 256 := by
  have h1 : IntKind.u8.min = 0 := by decide
  have h2 : IntKind.u8.max = 255 := by decide
  simp only [Lit.wf, h1, h2, Bool.and_eq_true, decide_eq_true_eq] at h
  omega
theorem set_take (l x : List Int) (i : Nat) (h : i < l.length) (hx : x.length = l.length) (ht : x.take i = l.take i) : (x.set i l[i]).take (i + 1) = l.take (i + 1) := by
  apply List.ext_getElem?
  intro j
  simp only [List.getElem?_take, List.getElem?_set]
  have hj : (x.take i)[j]? = (l.take i)[j]? := by rw [ht]
  simp only [List.getElem?_take] at hj
  by_cases h1 : j < i + 1
  · rw [if_pos h1, if_pos h1]
    by_cases h2 : i = j
    · subst h2; rw [if_pos rfl, if_pos (by omega), List.getElem?_eq_getElem h]
    · rw [if_neg h2]; rw [if_pos (by omega), if_pos (by omega)] at hj; exact hj
  · rw [if_neg h1, if_neg h1]
theorem drop_eq_cons (l : List Int) (i : Nat) (h : i < l.length) : l.drop i = l[i] :: l.drop (i + 1) := List.drop_eq_getElem_cons h
theorem cons_iff {a b : Int} (e : a = b) (l x : List Int) : (a :: l = b :: x) ↔ l = x := by
  rw [e]
  exact ⟨fun h => (List.cons.inj h).2, fun h => by rw [h]⟩
theorem take_full (l x : List Int) (i : Nat) (hi : l.length ≤ i) (hx : x.length = l.length) (ht : x.take i = l.take i) : x = l := by
  rwa [List.take_of_length_le (by omega), List.take_of_length_le hi] at ht

theorem to_wf8 {x : Int} (h0 : 0 ≤ x) (h1 : x < 256) : (Lit.int .u8 x).wf = true := by
  have h1 : IntKind.u8.min = 0 := by decide
  have h2 : IntKind.u8.max = 255 := by decide
  simp only [Lit.wf, h1, h2, Bool.and_eq_true, decide_eq_true_eq]
  omega
theorem to_wf64 {x : Int} (h0 : -9223372036854775808 ≤ x) (h1 : x < 9223372036854775808) : (Lit.int .i64 x).wf = true := by
  have h1 : IntKind.i64.min = -9223372036854775808 := by decide
  have h2 : IntKind.i64.max = 9223372036854775807 := by decide
  simp only [Lit.wf, h1, h2, Bool.and_eq_true, decide_eq_true_eq]
  omega

theorem InRange_eq (a b c : Int) : impl_InRange.f a b c = some (decide (b ≤ a ∧ a ≤ c)) := by
  unfold impl_InRange.f
  by_cases h : b ≤ a
  · rw [if_pos h]; congr 1; by_cases h2 : a ≤ c <;> simp [h2] <;> omega
  · rw [if_neg h]; congr 1; simp; omega

theorem big_eq (l : List Int) : laws_big.f l = some (decide ((l.length : Int) > 1048576)) := rfl

theorem and255 (x : Int) : 0 ≤ Go.bits .and .i64 x 255 ∧ Go.bits .and .i64 x 255 ≤ 255 := by
  have h : (BitVec.ofInt IntKind.i64.bits x &&& BitVec.ofInt IntKind.i64.bits 255).toNat ≤ 255 := by
    rw [BitVec.toNat_and]
    exact Nat.le_trans Nat.and_le_right (by decide)
  have e : Go.bits .and .i64 x 255 = IntKind.i64.wrap ((BitVec.ofInt IntKind.i64.bits x &&& BitVec.ofInt IntKind.i64.bits 255).toNat : Int) := rfl
  rw [e, Go.IntKind.wrap_i64]
  omega
/-- The cursor of a draw lies in its bytes. -/
def Cur (b : List Int) (s : Int) : Prop := 0 ≤ s ∧ s ≤ b.length
theorem l1Byte_ok (b : List Int) (hb : b.length ≤ 1048576) (s h : Int) (hs : Cur b s) : ∃ x s' h', spec_l1Byte.f b s h = some (x, s', h') ∧ 0 ≤ x ∧ x ≤ 255 ∧ Cur b s' := by
  have hs0 := hs.1
  have hs1 := hs.2
  unfold spec_l1Byte.f
  by_cases c : s < (b.length : Int)
  · rw [if_pos c, if_pos hs.1]
    have hw : wrap64 (s + 1) = s + 1 := wrap_id (by omega) (by omega)
    rw [hw]
    exact ⟨_, _, _, rfl, (and255 _).1, (and255 _).2, ⟨by omega, by omega⟩⟩
  · rw [if_neg c]
    exact ⟨_, _, _, rfl, (and255 _).1, (and255 _).2, hs⟩
theorem l1Below_ok (b : List Int) (hb : b.length ≤ 1048576) (s h n : Int) (hs : Cur b s) : ∃ x s' h', spec_l1Below.f b s h n = some (x, s', h') ∧ 0 ≤ x ∧ (0 < n → x < n) ∧ Cur b s' := by
  unfold spec_l1Below.f
  by_cases c : n ≤ 0
  · rw [if_pos c]; exact ⟨0, s, h, rfl, by omega, fun h => by omega, hs⟩
  · rw [if_neg c]
    by_cases c2 : n ≤ 256
    · rw [if_pos c2]
      obtain ⟨x, s', h', e, h0, h1, hc⟩ := l1Byte_ok b hb s h hs
      rw [e]
      simp only [Option.bind_some]
      rw [if_neg (by omega), Int.tmod_eq_emod_of_nonneg h0]
      exact ⟨_, _, _, rfl, Int.emod_nonneg _ (by omega), fun h => Int.emod_lt_of_pos _ h, hc⟩
    · rw [if_neg c2]
      obtain ⟨x, s1, h1, e1, a0, a1, hc1⟩ := l1Byte_ok b hb s h hs
      obtain ⟨y, s2, h2, e2, b0, b1, hc2⟩ := l1Byte_ok b hb s1 h1 hc1
      obtain ⟨z, s3, h3, e3, d0, d1, hc3⟩ := l1Byte_ok b hb s2 h2 hc2
      simp only [e1, e2, e3, Option.bind_some]
      rw [if_neg (by omega), wrap_id (x := x * 65536) (by omega) (by omega), wrap_id (x := y * 256) (by omega) (by omega), wrap_id (x := x * 65536 + y * 256) (by omega) (by omega), wrap_id (x := x * 65536 + y * 256 + z) (by omega) (by omega), Int.tmod_eq_emod_of_nonneg (by omega)]
      exact ⟨_, _, _, rfl, Int.emod_nonneg _ (by omega), fun h => Int.emod_lt_of_pos _ h, hc3⟩
theorem l1New_l0 (l : List Int) (hl : l.length ≤ 1048576) (d : Nat) : ∀ (i : Nat) (h : Int), l.length - i = d → ∃ h', Ev (fun k => spec_l1New.l0 k l h (i : Int)) (l, 0, h') := by
  induction d with
  | zero =>
    intro i h hd
    refine ⟨h, Ev.step (f := fun _ => some (l, 0, h)) (fun k => ?_) (Ev.now _)⟩
    simp only [spec_l1New.l0]
    rw [if_neg (by omega)]
  | succ d ih =>
    intro i h hd
    by_cases c : (i : Int) < 4000
    · obtain ⟨h', e⟩ := ih (i + 1) (Go.bits .and .i64 (wrap64 ((wrap64 ((wrap64 (h * 137)) + (wrap64 (rd l (i : Int))))) + 11)) 1073741823) (by omega)
      refine ⟨h', Ev.step (f := fun k => spec_l1New.l0 k l _ ((i + 1 : Nat) : Int)) (fun k => ?_) e⟩
      simp only [spec_l1New.l0]
      rw [if_pos (by omega), if_pos c, if_pos (by omega), wrap_id (x := (i : Int) + 1) (by omega) (by omega)]
      rfl
    · refine ⟨h, Ev.step (f := fun _ => some (l, 0, h)) (fun k => ?_) (Ev.now _)⟩
      simp only [spec_l1New.l0]
      rw [if_pos (by omega), if_neg c]
theorem l1New_ev (l : List Int) (hl : l.length ≤ 1048576) : ∃ h', Ev (fun k => spec_l1New.f k l) (l, 0, h') := l1New_l0 l hl l.length 0 _ (by omega)
theorem cur0 (l : List Int) : Cur l 0 := ⟨by omega, by omega⟩

theorem l1Bytes_l0 (b : List Int) (hb : b.length ≤ 1048576) (n : Nat) (hn : n ≤ 1000) (d : Nat) : ∀ (i : Nat) (acc : List Int) (s h : Int), i + d = n → acc.length = i → (∀ x ∈ acc, (Lit.int .u8 x).wf = true) → Cur b s → ∃ out s' h', Ev (fun k => spec_l1Bytes.l0 k (n : Int) acc (i : Int) b s h) (out, s', h') ∧ out.length = n ∧ (∀ x ∈ out, (Lit.int .u8 x).wf = true) ∧ Cur b s' := by
  induction d with
  | zero =>
    intro i acc s h hd ha hw hs
    refine ⟨acc, s, h, Ev.step (f := fun _ => some (acc, s, h)) (fun k => ?_) (Ev.now _), by omega, hw, hs⟩
    simp only [spec_l1Bytes.l0]
    rw [if_neg (by omega)]
  | succ d ih =>
    intro i acc s h hd ha hw hs
    obtain ⟨x, s1, h1, e1, a0, a1, hc1⟩ := l1Byte_ok b hb s h hs
    obtain ⟨out, s', h', ev, r1, r2, r3⟩ := ih (i + 1) (acc ++ [x % 256]) s1 h1 (by omega) (by simp [ha]) (fun y hy => by
      rcases List.mem_append.1 hy with hy | hy
      · exact hw y hy
      · rw [List.mem_singleton.1 hy]
        exact to_wf8 (by omega) (by omega)) hc1
    refine ⟨out, s', h', Ev.step (f := fun k => spec_l1Bytes.l0 k (n : Int) (acc ++ [x % 256]) ((i + 1 : Nat) : Int) b s1 h1) (fun k => ?_) ev, r1, r2, r3⟩
    simp only [spec_l1Bytes.l0]
    rw [if_pos (by omega), e1]
    simp only [Option.bind_some]
    rw [if_pos (by omega), wrap_id (x := (i : Int) + 1) (by omega) (by omega)]
    rfl
theorem l1Bytes_ev (b : List Int) (hb : b.length ≤ 1048576) (s h n : Int) (h0 : 0 ≤ n) (hn : n ≤ 1000) (hs : Cur b s) : ∃ out s' h', Ev (fun k => spec_l1Bytes.f k b s h n) (out, s', h') ∧ (out.length : Int) = n ∧ (∀ x ∈ out, (Lit.int .u8 x).wf = true) ∧ Cur b s' := by
  obtain ⟨out, s', h', e, r1, r2, r3⟩ := l1Bytes_l0 b hb n.toNat (by omega) n.toNat 0 [] s h (by omega) rfl (by simp) hs
  rw [Int.toNat_of_nonneg h0] at e
  exact ⟨out, s', h', e, by omega, r2, r3⟩

theorem l1Once_ok (b : List Int) (hb : b.length ≤ 1048576) (s h n : Int) (hs : Cur b s) : ∃ (t : Bool) (s' h' : Int), spec_l1Once.f b s h n = some (t, s', h') ∧ Cur b s' := by
  obtain ⟨x, s', h', e, _, _, hc⟩ := l1Below_ok b hb s h n hs
  unfold spec_l1Once.f
  rw [e]
  exact ⟨_, s', h', rfl, hc⟩

theorem l1Int_ok (b : List Int) (hb : b.length ≤ 1048576) (s h : Int) (l : List Int) (hl : 0 < l.length) (hs : Cur b s) : ∃ x s' h', spec_l1Int.f b s h l = some (x, s', h') ∧ x ∈ l ∧ Cur b s' := by
  obtain ⟨x, s', h', e, h0, h1, hc⟩ := l1Below_ok b hb s h (l.length : Int) hs
  have h1 := h1 (by omega)
  unfold spec_l1Int.f
  rw [e]
  simp only [Option.bind_some]
  rw [if_pos h0, if_pos h1]
  refine ⟨_, s', h', rfl, ?_, hc⟩
  have hx : x.toNat < l.length := by omega
  have := rd_nat l x.toNat hx
  rw [Int.toNat_of_nonneg h0] at this
  rw [this]
  exact List.getElem_mem hx

theorem l3Word_ok (b : List Int) (hb : b.length ≤ 1048576) (s h : Int) (hs : Cur b s) : ∃ x s' h', spec_l3Word.f b s h = some (x, s', h') ∧ -1 ≤ x ∧ x ≤ 2147483648 ∧ Cur b s' := by
  unfold spec_l3Word.f
  obtain ⟨t, s1, h1, e1, c1⟩ := l1Once_ok b hb s h 10 hs
  simp only [e1, Option.bind_some]
  cases t with
  | true =>
    obtain ⟨x, s2, h2, e2, m, c2⟩ := l1Int_ok b hb s1 h1 [(-1), 2147483647, 2147483648] (by simp) c1
    simp only [e2, Option.bind_some, if_true]
    simp only [List.mem_cons, List.not_mem_nil, or_false] at m
    exact ⟨x, s2, h2, rfl, by omega, by omega, c2⟩
  | false =>
    simp only [Bool.false_eq_true, if_false]
    obtain ⟨t, s2, h2, e2, c2⟩ := l1Once_ok b hb s1 h1 4 c1
    simp only [e2, Option.bind_some]
    cases t with
    | true =>
      obtain ⟨x, s3, h3, e3, m, c3⟩ := l1Int_ok b hb s2 h2 [0, 1, 2147483646] (by simp) c2
      simp only [e3, Option.bind_some, if_true]
      simp only [List.mem_cons, List.not_mem_nil, or_false] at m
      exact ⟨x, s3, h3, rfl, by omega, by omega, c3⟩
    | false =>
      simp only [Bool.false_eq_true, if_false]
      obtain ⟨x, s3, h3, e3, p0, p1, c3⟩ := l1Below_ok b hb s2 h2 1000000 c2
      obtain ⟨y, s4, h4, e4, q0, q1, c4⟩ := l1Below_ok b hb s3 h3 2000 c3
      simp only [e3, e4, Option.bind_some]
      have p1 := p1 (by decide)
      have q1 := q1 (by decide)
      have m0 : 0 ≤ x * y := Int.mul_nonneg p0 q0
      have m1 : x * y ≤ 999999 * 1999 := Int.mul_le_mul (by omega) (by omega) q0 (by decide)
      rw [wrap_id (x := x * y) (by omega) (by omega)]
      exact ⟨x * y, s4, h4, rfl, by omega, by omega, c4⟩

theorem sameBytes_l0 (l x : List Int) (hl : l.length ≤ 16777216) (hx : x.length = l.length) (d : Nat) : ∀ (i : Nat), l.length - i = d → i ≤ l.length → Ev (fun k => laws_sameBytes.l0 k l x (i : Int)) (decide (l.drop i = x.drop i)) := by
  induction d with
  | zero =>
    intro i hd hi
    rw [List.drop_eq_nil_of_le (by omega), List.drop_eq_nil_of_le (by omega), decide_eq_true rfl]
    refine Ev.step (f := fun _ => some true) (fun k => ?_) (Ev.now true)
    simp only [laws_sameBytes.l0]
    rw [if_neg (by omega)]
  | succ d ih =>
    intro i hd hi
    have h : i < l.length := by omega
    have h' : i < x.length := by omega
    rw [drop_eq_cons l i h, drop_eq_cons x i h']
    by_cases e : l[i] = x[i]
    · rw [decide_eq_decide.2 (cons_iff e _ _)]
      refine Ev.step (f := fun k => laws_sameBytes.l0 k l x ((i + 1 : Nat) : Int)) (fun k => ?_) (ih (i + 1) (by omega) (by omega))
      simp only [laws_sameBytes.l0]
      rw [if_pos (by omega), if_pos (by omega), if_pos (by omega), rd_nat l i h, rd_nat x i h', if_pos e, wrap_id (by omega) (by omega)]
      rfl
    · rw [decide_eq_false fun h => e (List.cons.inj h).1]
      refine Ev.step (f := fun _ => some false) (fun k => ?_) (Ev.now false)
      simp only [laws_sameBytes.l0]
      rw [if_pos (by omega), if_pos (by omega), if_pos (by omega), rd_nat l i h, rd_nat x i h', if_neg e]
theorem sameBytes_ev (l x : List Int) (hl : l.length ≤ 16777216) : Ev (fun k => laws_sameBytes.f k l x) (decide (l = x)) := by
  by_cases e : l.length = x.length
  · refine Ev.congr (f := fun k => laws_sameBytes.l0 k l x ((0 : Nat) : Int)) (fun k => ?_) (by simpa using sameBytes_l0 l x hl e.symm l.length 0 (by omega) (by omega))
    unfold laws_sameBytes.f
    rw [if_pos (by omega)]
    rfl
  · rw [decide_eq_false (fun h => e (by rw [h]))]
    refine Ev.congr (f := fun _ => some false) (fun k => ?_) (Ev.now false)
    unfold laws_sameBytes.f
    rw [if_neg (by omega)]
theorem sameBytes_self (l : List Int) (hl : l.length ≤ 16777216) : Ev (fun k => laws_sameBytes.f k l l) true := by
  simpa using sameBytes_ev l l hl

theorem Mod_some (a b : Int) : ∃ r, impl_Mod.f a b = some r := by
  unfold impl_Mod.f
  simp only [InRange_eq, Option.bind_some]
  split
  · rename_i h
    simp at h
    rw [if_neg (by omega)]
    exact ⟨_, rfl⟩
  · exact ⟨_, rfl⟩

def hashFrom : List Int → Int → Int
  | [], s => s
  | a :: l, s => hashFrom l (Int.tmod (wrap64 (wrap64 (wrap64 (s * 1000003) + Int.tmod (wrap64 (Int.tmod a 2147483647 + 2147483647)) 2147483647) + 13)) 2147483647)
theorem Mod_mod (a : Int) : impl_Mod.f a 2147483647 = some (Int.tmod (wrap64 (Int.tmod a 2147483647 + 2147483647)) 2147483647) := by
  unfold impl_Mod.f
  simp only [InRange_eq, Option.bind_some]
  rw [if_pos (by decide), if_neg (by decide)]

theorem implHash_l0 (l : List Int) (hl : l.length ≤ 4194304) (d : Nat) : ∀ (i : Nat) (s : Int), l.length - i = d → Ev (fun k => impl_Hash.l0 k s l (l.length : Int) (i : Int)) (hashFrom (l.drop i) s) := by
  induction d with
  | zero =>
    intro i s hd
    rw [List.drop_eq_nil_of_le (by omega)]
    refine Ev.step (f := fun _ => some s) (fun k => ?_) (Ev.now s)
    simp only [impl_Hash.l0]
    rw [if_neg (by omega)]
  | succ d ih =>
    intro i s hd
    have h : i < l.length := by omega
    rw [drop_eq_cons l i h]
    refine Ev.step (f := fun k => impl_Hash.l0 k _ l (l.length : Int) ((i + 1 : Nat) : Int)) (fun k => ?_) (ih (i + 1) _ (by omega))
    simp only [impl_Hash.l0]
    rw [if_pos (by omega), if_pos (by omega), if_pos (by omega), rd_nat l i h, Mod_mod, wrap_id (x := (i : Int) + 1) (by omega) (by omega)]
    rfl

theorem implHash_ev (l : List Int) (hl : l.length ≤ 4194304) : Ev (fun k => impl_Hash.f k l) (hashFrom l 11) := by
  have := implHash_l0 l hl l.length 0 11 (by omega)
  unfold impl_Hash.f
  exact this

theorem hash_range (l : List Int) : ∀ s, 0 ≤ s → s < 2147483647 → 0 ≤ hashFrom l s ∧ hashFrom l s < 2147483647 := by
  induction l with
  | nil => intro s h0 h1; exact ⟨h0, h1⟩
  | cons a l ih =>
    intro s h0 h1
    simp only [hashFrom]
    have hm1 : -2147483647 < Int.tmod a 2147483647 := Int.lt_tmod_of_pos a (by decide)
    have hm2 : Int.tmod a 2147483647 < 2147483647 := Int.tmod_lt_of_pos a (by decide)
    rw [wrap_id (x := Int.tmod a 2147483647 + 2147483647) (by omega) (by omega), Int.tmod_eq_emod_of_nonneg (a := Int.tmod a 2147483647 + 2147483647) (by omega)]
    rw [wrap_id (x := s * 1000003) (by omega) (by omega), wrap_id (x := s * 1000003 + _) (by omega) (by omega), wrap_id (x := s * 1000003 + _ + 13) (by omega) (by omega), Int.tmod_eq_emod_of_nonneg (by omega)]
    exact ih _ (by omega) (by omega)
def kh (a i : Int) : Int := hashFrom ([a] ++ [i] ++ [a]) 11
theorem kh_range (a i : Int) : 0 ≤ kh a i ∧ kh a i < 2147483647 := hash_range _ 11 (by decide) (by decide)

theorem implKeyed_ev (a : Int) (l : List Int) (hl : l.length ≤ 1048576) : Ev (fun k => impl_KeyedHash.f k a l) (hashFrom ([a] ++ l ++ [a]) 11) := by
  unfold impl_KeyedHash.f
  simp only [Option.bind_some]
  simp only [if_pos (show ([a] : List Int).length + l.length < 17592186044416 by simp; omega), if_pos (show ([a] ++ l).length < 17592186044416 by simp; omega)]
  exact Ev.bind (implHash_ev _ (by simp; omega)) (Ev.now _)

theorem clone_eq (l : List Int) (hl : l.length ≤ 16777216) : slices_Clone_byte_byte.f l = some l := by
  unfold slices_Clone_byte_byte.f
  simp only [Option.bind_some]
  rw [if_pos (by simp; omega)]
  rfl

def encryptFrom (key : Int) : Nat → List Int → List Int
  | _, [] => []
  | i, b :: l => (b + kh key i) % 256 :: encryptFrom key (i + 1) l
theorem encryptFrom_len (key : Int) (l : List Int) : ∀ i, (encryptFrom key i l).length = l.length := by
  induction l with
  | nil => intro i; rfl
  | cons b l ih => intro i; simp [encryptFrom, ih]
theorem implEncrypt_l0 (key : Int) (N : Nat) (hN : N ≤ 1048576) (Q : List Int) : ∀ (P : List Int), P.length + Q.length = N → Ev (fun k => impl_Encrypt.l0 k key (P ++ Q) (N : Int) (P.length : Int)) (P ++ encryptFrom key P.length Q) := by
  induction Q with
  | nil =>
    intro P hP
    refine Ev.step (f := fun _ => some (P ++ [])) (fun k => ?_) (Ev.now _)
    simp only [impl_Encrypt.l0]
    simp only [List.length_nil] at hP
    rw [if_neg (by omega)]
  | cons b Q ih =>
    intro P hP
    simp only [List.length_cons] at hP
    have hk := kh_range key P.length
    simp only [encryptFrom]
    rw [List.append_cons P ((b + kh key P.length) % 256)]
    have hih := ih (P ++ [(b + kh key P.length) % 256]) (by simp; omega)
    simp only [List.length_append, List.length_cons, List.length_nil, Nat.zero_add] at hih
    refine Ev.step (f := fun k => (impl_KeyedHash.f k key [(P.length : Int)]).bind fun t => impl_Encrypt.l0 k key (P ++ (b + t % 256) % 256 :: Q) (N : Int) ((P.length + 1 : Nat) : Int)) (fun k => ?_) (Ev.bind (implKeyed_ev key [(P.length : Int)] (by simp)) ?_)
    · simp only [impl_Encrypt.l0]
      have hr : rd (P ++ b :: Q) (P.length : Int) = b := by rw [rd_nat _ _ (by simp)]; simp
      rw [if_pos (by omega), if_pos (by omega), if_pos (by simp; omega), hr, wrap_id (x := (P.length : Int) + 1) (by omega) (by omega), Int.toNat_natCast]
      simp only [List.set_append_right _ _ (Nat.le_refl _), Nat.sub_self, List.set_cons_zero]
      rfl
    · have e : (b + hashFrom ([key] ++ [(P.length : Int)] ++ [key]) 11 % 256) % 256 = (b + kh key P.length) % 256 := by
        show (b + kh key P.length % 256) % 256 = _
        omega
      rw [e, List.append_cons P]
      exact hih
theorem implEncrypt_ev (key : Int) (l : List Int) (hl : l.length ≤ 1048576) : Ev (fun k => impl_Encrypt.f k key l) (encryptFrom key 0 l) := by
  unfold impl_Encrypt.f
  simp only [clone_eq l (by omega), Option.bind_some]
  exact implEncrypt_l0 key l.length hl l [] (by simp)

def decryptFrom (key : Int) : Nat → List Int → List Int
  | _, [] => []
  | i, b :: l => (b - kh key i) % 256 :: decryptFrom key (i + 1) l
theorem decryptFrom_len (key : Int) (l : List Int) : ∀ i, (decryptFrom key i l).length = l.length := by
  induction l with
  | nil => intro i; rfl
  | cons b l ih => intro i; simp [decryptFrom, ih]
theorem implDecrypt_l0 (key : Int) (N : Nat) (hN : N ≤ 1048576) (Q : List Int) : ∀ (P : List Int), P.length + Q.length = N → Ev (fun k => impl_Decrypt.l0 k key (P ++ Q) (N : Int) (P.length : Int)) (P ++ decryptFrom key P.length Q) := by
  induction Q with
  | nil =>
    intro P hP
    refine Ev.step (f := fun _ => some (P ++ [])) (fun k => ?_) (Ev.now _)
    simp only [impl_Decrypt.l0]
    simp only [List.length_nil] at hP
    rw [if_neg (by omega)]
  | cons b Q ih =>
    intro P hP
    simp only [List.length_cons] at hP
    have hk := kh_range key P.length
    simp only [decryptFrom]
    rw [List.append_cons P ((b - kh key P.length) % 256)]
    have hih := ih (P ++ [(b - kh key P.length) % 256]) (by simp; omega)
    simp only [List.length_append, List.length_cons, List.length_nil, Nat.zero_add] at hih
    refine Ev.step (f := fun k => (impl_KeyedHash.f k key [(P.length : Int)]).bind fun t => impl_Decrypt.l0 k key (P ++ (b - t % 256) % 256 :: Q) (N : Int) ((P.length + 1 : Nat) : Int)) (fun k => ?_) (Ev.bind (implKeyed_ev key [(P.length : Int)] (by simp)) ?_)
    · simp only [impl_Decrypt.l0]
      have hr : rd (P ++ b :: Q) (P.length : Int) = b := by rw [rd_nat _ _ (by simp)]; simp
      rw [if_pos (by omega), if_pos (by omega), if_pos (by simp; omega), hr, wrap_id (x := (P.length : Int) + 1) (by omega) (by omega), Int.toNat_natCast]
      simp only [List.set_append_right _ _ (Nat.le_refl _), Nat.sub_self, List.set_cons_zero]
      rfl
    · have e : (b - hashFrom ([key] ++ [(P.length : Int)] ++ [key]) 11 % 256) % 256 = (b - kh key P.length) % 256 := by
        show (b - kh key P.length % 256) % 256 = _
        omega
      rw [e, List.append_cons P]
      exact hih
theorem implDecrypt_ev (key : Int) (l : List Int) (hl : l.length ≤ 1048576) : Ev (fun k => impl_Decrypt.f k key l) (decryptFrom key 0 l) := by
  unfold impl_Decrypt.f
  simp only [clone_eq l (by omega), Option.bind_some]
  exact implDecrypt_l0 key l.length hl l [] (by simp)

theorem dec_enc (key : Int) (l : List Int) (w : ∀ x ∈ l, (Lit.int .u8 x).wf = true) : ∀ i, decryptFrom key i (encryptFrom key i l) = l := by
  induction l with
  | nil => intro i; rfl
  | cons b l ih =>
    intro i
    simp only [encryptFrom, decryptFrom]
    rw [ih (fun x hx => w x (by simp [hx])) (i + 1)]
    have := wf8 (w b (by simp))
    congr 1
    omega
theorem enc_dec (key : Int) (l : List Int) (w : ∀ x ∈ l, (Lit.int .u8 x).wf = true) : ∀ i, encryptFrom key i (decryptFrom key i l) = l := by
  induction l with
  | nil => intro i; rfl
  | cons b l ih =>
    intro i
    simp only [encryptFrom, decryptFrom]
    rw [ih (fun x hx => w x (by simp [hx])) (i + 1)]
    have := wf8 (w b (by simp))
    congr 1
    omega

theorem FnCipher : laws_FnCipher.Pure := by
  intro l0 _ _ w0
  refine Ev.rounds ?_
  unfold laws_FnCipher.f
  simp only [big_eq, Option.bind_some]
  by_cases cb : (l0.length : Int) > 1048576
  · simp only [decide_eq_true cb, if_true]; exact Ev.now true
  have b_l0 : l0.length ≤ 1048576 := by omega
  simp only [decide_eq_false cb, Bool.false_eq_true, if_false]
  obtain ⟨h1, e1⟩ := l1New_ev l0 b_l0
  obtain ⟨key, s2, h2, e2, _, _, c2⟩ := l3Word_ok l0 b_l0 0 h1 (cur0 l0)
  obtain ⟨n, s3, h3, e3, n0, n1, c3⟩ := l1Below_ok l0 b_l0 s2 h2 8 c2
  obtain ⟨b, s4, h4, e4, hb, wb, _⟩ := l1Bytes_ev l0 b_l0 s3 h3 n n0 (by have := n1 (by decide); omega) c3
  have n2 := n1 (by decide)
  have hd : Ev (fun k => spec_DrawEncrypt.f k l0) (key, b) := by
    unfold spec_DrawEncrypt.f
    refine Ev.bind e1 ?_
    simp only [e2, e3, Option.bind_some]
    exact Ev.bind e4 (Ev.now _)
  refine Ev.bind hd ?_
  have hE : ∀ l : List Int, l.length = b.length → Ev (fun k => impl_Encrypt.f k key l) (encryptFrom key 0 l) := fun l h => implEncrypt_ev key l (by omega)
  have hD : ∀ l : List Int, l.length = b.length → Ev (fun k => impl_Decrypt.f k key l) (decryptFrom key 0 l) := fun l h => implDecrypt_ev key l (by omega)
  refine Ev.bind (hE b rfl) ?_
  refine Ev.bind (hD _ (encryptFrom_len key b 0)) ?_
  rw [dec_enc key b wb 0]
  refine Ev.bind (sameBytes_self b (by omega)) ?_
  simp only [if_true]
  refine Ev.bind (hD b rfl) ?_
  refine Ev.bind (hE _ (decryptFrom_len key b 0)) ?_
  rw [enc_dec key b wb 0]
  refine Ev.bind (sameBytes_self b (by omega)) ?_
  simp only [if_true]
  refine Ev.bind (hE b rfl) ?_
  rw [encryptFrom_len]
  simp only [beq_self_eq_true]
  exact Ev.now true

end Go.Proofs.Ytneiadniopmcnaa.Pure
