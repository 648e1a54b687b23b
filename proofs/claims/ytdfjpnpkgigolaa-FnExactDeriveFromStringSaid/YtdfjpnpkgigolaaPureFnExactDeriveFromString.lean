/-
  For all arguments, the program's DeriveFromString returns what the reference's DeriveFromString returns.
  Conditions: none beside the given statement's own.
-/
import Derived.Test.YtdfjpnpkgigolaaPFnExactDeriveFromStringx1
set_option linter.unusedSimpArgs false
set_option linter.unusedVariables false
namespace Go.Proofs.Ytdfjpnpkgigolaa.Pure
open Go.RowKit Go.Proofs.Ytdfjpnpkgigolaa.PFnExactDeriveFromString Go.Proofs.YtdfjpnpkgigolaaW.PrintWords Go.Proofs.YtdfjpnpkgigolaaW.PrintLast Go.Proofs.YtdfjpnpkgigolaaW.PrintMore

theorem wrap_id {x : Int} (h1 : -9223372036854775808 ≤ x) (h2 : x < 9223372036854775808) : wrap64 x = x := by unfold wrap64; omega
theorem rd_nat (l : List Int) (i : Nat) (h : i < l.length) : rd l (i : Int) = l[i] := by
  unfold rd; rw [Int.toNat_natCast, List.getD_eq_getElem?_getD, List.getElem?_eq_getElem h]; rfl
theorem wf64 {x : Int} (h : (Lit.int .i64 x).wf = true) : -9223372036854775808 ≤ x ∧ x < 9223372036854775808 := by
  have h1 : IntKind.i64.min = -9223372036854775808 := by decide
  have h2 : IntKind.i64.max = 9223372036854775807 := by decide
  simp only [Lit.wf, h1, h2, Bool.and_eq_true, decide_eq_true_eq] at h
  omega
theorem wf8 {x : Int} (h : (Lit.int .u8 x).wf = true) : 0 ≤ x ∧ x < 256 := by
  have h1 : IntKind.u8.min = 0 := by decide
  have h2 : IntKind.u8.max = 255 := by decide
  simp only [Lit.wf, h1, h2, Bool.and_eq_true, decide_eq_true_eq] at h
  omega
theorem set_take (l x : List Int) (i : Nat) (h : i < l.length) (hx : x.length = l.length) (ht : x.take i = l.take i) : (x.set i l[i]).take (i + 1) = l.take (i + 1) := by
  apply List.ext_getElem?
  intro j
  simp only [List.getElem?_take, List.getElem?_set]
  have hj : (x.take i)[j]? = (l.take i)[j]? := by rw [ht]
  simp only [List.getElem?_take] at hj
  by_cases h1 : j < i + 1
  · rw [if_pos h1, if_pos h1]
    by_cases h2 : i = j
    · subst h2; rw [if_pos rfl, if_pos (by omega), List.getElem?_eq_getElem h]
    · rw [if_neg h2]; rw [if_pos (by omega), if_pos (by omega)] at hj; exact hj
  · rw [if_neg h1, if_neg h1]
theorem drop_eq_cons (l : List Int) (i : Nat) (h : i < l.length) : l.drop i = l[i] :: l.drop (i + 1) := List.drop_eq_getElem_cons h
theorem cons_iff {a b : Int} (e : a = b) (l x : List Int) : (a :: l = b :: x) ↔ l = x := by
  rw [e]
  exact ⟨fun h => (List.cons.inj h).2, fun h => by rw [h]⟩
theorem take_full (l x : List Int) (i : Nat) (hi : l.length ≤ i) (hx : x.length = l.length) (ht : x.take i = l.take i) : x = l := by
  rwa [List.take_of_length_le (by omega), List.take_of_length_le hi] at ht

theorem to_wf8 {x : Int} (h0 : 0 ≤ x) (h1 : x < 256) : (Lit.int .u8 x).wf = true := by
  have h1 : IntKind.u8.min = 0 := by decide
  have h2 : IntKind.u8.max = 255 := by decide
  simp only [Lit.wf, h1, h2, Bool.and_eq_true, decide_eq_true_eq]
  omega
theorem to_wf64 {x : Int} (h0 : -9223372036854775808 ≤ x) (h1 : x < 9223372036854775808) : (Lit.int .i64 x).wf = true := by
  have h1 : IntKind.i64.min = -9223372036854775808 := by decide
  have h2 : IntKind.i64.max = 9223372036854775807 := by decide
  simp only [Lit.wf, h1, h2, Bool.and_eq_true, decide_eq_true_eq]
  omega

theorem l1In_eq (a b c : Int) : spec_l1In.f a b c = some (decide (b ≤ a ∧ a ≤ c)) := by
  unfold spec_l1In.f
  by_cases h : a ≥ b
  · rw [if_pos h]; congr 1; by_cases h2 : a ≤ c <;> simp [h2] <;> omega
  · rw [if_neg h]; congr 1; simp; omega
theorem InRange_eq (a b c : Int) : impl_InRange.f a b c = some (decide (b ≤ a ∧ a ≤ c)) := by
  unfold impl_InRange.f
  by_cases h : b ≤ a
  · rw [if_pos h]; congr 1; by_cases h2 : a ≤ c <;> simp [h2] <;> omega
  · rw [if_neg h]; congr 1; simp; omega

theorem Mod_same (a b : Int) : spec_Mod.f a b = impl_Mod.f a b := by
  unfold spec_Mod.f impl_Mod.f
  simp only [l1In_eq, InRange_eq]
theorem Mod_some (a b : Int) : ∃ r, impl_Mod.f a b = some r := by
  unfold impl_Mod.f
  simp only [InRange_eq, Option.bind_some]
  split
  · rename_i h
    simp at h
    rw [if_neg (by omega)]
    exact ⟨_, rfl⟩
  · exact ⟨_, rfl⟩

def hashFrom : List Int → Int → Int
  | [], s => s
  | a :: l, s => hashFrom l (Int.tmod (wrap64 (wrap64 (wrap64 (s * 1000003) + Int.tmod (wrap64 (Int.tmod a 2147483647 + 2147483647)) 2147483647) + 13)) 2147483647)
theorem Mod_mod (a : Int) : impl_Mod.f a 2147483647 = some (Int.tmod (wrap64 (Int.tmod a 2147483647 + 2147483647)) 2147483647) := by
  unfold impl_Mod.f
  simp only [InRange_eq, Option.bind_some]
  rw [if_pos (by decide), if_neg (by decide)]
theorem specMod_mod (a : Int) : spec_Mod.f a 2147483647 = some (Int.tmod (wrap64 (Int.tmod a 2147483647 + 2147483647)) 2147483647) := (Mod_same a _).trans (Mod_mod a)
theorem implHash_l0 (l : List Int) (hl : l.length ≤ 4194304) (d : Nat) : ∀ (i : Nat) (s : Int), l.length - i = d → Ev (fun k => impl_Hash.l0 k s l (l.length : Int) (i : Int)) (hashFrom (l.drop i) s) := by
  induction d with
  | zero =>
    intro i s hd
    rw [List.drop_eq_nil_of_le (by omega)]
    refine Ev.step (f := fun _ => some s) (fun k => ?_) (Ev.now s)
    simp only [impl_Hash.l0]
    rw [if_neg (by omega)]
  | succ d ih =>
    intro i s hd
    have h : i < l.length := by omega
    rw [drop_eq_cons l i h]
    refine Ev.step (f := fun k => impl_Hash.l0 k _ l (l.length : Int) ((i + 1 : Nat) : Int)) (fun k => ?_) (ih (i + 1) _ (by omega))
    simp only [impl_Hash.l0]
    rw [if_pos (by omega), if_pos (by omega), if_pos (by omega), rd_nat l i h, Mod_mod, wrap_id (x := (i : Int) + 1) (by omega) (by omega)]
    rfl
theorem specHash_l0 (l : List Int) (hl : l.length ≤ 4194304) (d : Nat) : ∀ (i : Nat) (s : Int), l.length - i = d → Ev (fun k => spec_Hash.l0 k l s (i : Int)) (hashFrom (l.drop i) s) := by
  induction d with
  | zero =>
    intro i s hd
    rw [List.drop_eq_nil_of_le (by omega)]
    refine Ev.step (f := fun _ => some s) (fun k => ?_) (Ev.now s)
    simp only [spec_Hash.l0]
    rw [if_neg (by omega)]
  | succ d ih =>
    intro i s hd
    have h : i < l.length := by omega
    rw [drop_eq_cons l i h]
    refine Ev.step (f := fun k => spec_Hash.l0 k l _ ((i + 1 : Nat) : Int)) (fun k => ?_) (ih (i + 1) _ (by omega))
    simp only [spec_Hash.l0]
    rw [if_pos (by omega), if_pos (by omega), rd_nat l i h, specMod_mod, wrap_id (x := (i : Int) + 1) (by omega) (by omega)]
    rfl
theorem implHash_ev (l : List Int) (hl : l.length ≤ 4194304) : Ev (fun k => impl_Hash.f k l) (hashFrom l 11) := by
  have := implHash_l0 l hl l.length 0 11 (by omega)
  unfold impl_Hash.f
  exact this
theorem specHash_ev (l : List Int) (hl : l.length ≤ 4194304) : Ev (fun k => spec_Hash.f k l) (hashFrom l 11) := by
  have := specHash_l0 l hl l.length 0 11 (by omega)
  unfold spec_Hash.f
  exact this

theorem hash_range (l : List Int) : ∀ s, 0 ≤ s → s < 2147483647 → 0 ≤ hashFrom l s ∧ hashFrom l s < 2147483647 := by
  induction l with
  | nil => intro s h0 h1; exact ⟨h0, h1⟩
  | cons a l ih =>
    intro s h0 h1
    simp only [hashFrom]
    have hm1 : -2147483647 < Int.tmod a 2147483647 := Int.lt_tmod_of_pos a (by decide)
    have hm2 : Int.tmod a 2147483647 < 2147483647 := Int.tmod_lt_of_pos a (by decide)
    rw [wrap_id (x := Int.tmod a 2147483647 + 2147483647) (by omega) (by omega), Int.tmod_eq_emod_of_nonneg (a := Int.tmod a 2147483647 + 2147483647) (by omega)]
    rw [wrap_id (x := s * 1000003) (by omega) (by omega), wrap_id (x := s * 1000003 + _) (by omega) (by omega), wrap_id (x := s * 1000003 + _ + 13) (by omega) (by omega), Int.tmod_eq_emod_of_nonneg (by omega)]
    exact ih _ (by omega) (by omega)
def kh (a i : Int) : Int := hashFrom ([a] ++ [i] ++ [a]) 11
theorem kh_range (a i : Int) : 0 ≤ kh a i ∧ kh a i < 2147483647 := hash_range _ 11 (by decide) (by decide)
theorem specKeyed_ev (a : Int) (l : List Int) (hl : l.length ≤ 2097152) : Ev (fun k => spec_KeyedHash.f k a l) (hashFrom ([a] ++ l ++ [a]) 11) := by
  unfold spec_KeyedHash.f
  simp only [Option.bind_some]
  simp only [if_pos (show ([a] : List Int).length + l.length < 17592186044416 by simp; omega), if_pos (show ([a] ++ l).length < 17592186044416 by simp; omega)]
  exact Ev.bind (specHash_ev _ (by simp; omega)) (Ev.now _)
theorem implKeyed_ev (a : Int) (l : List Int) (hl : l.length ≤ 2097152) : Ev (fun k => impl_KeyedHash.f k a l) (hashFrom ([a] ++ l ++ [a]) 11) := by
  unfold impl_KeyedHash.f
  simp only [Option.bind_some]
  simp only [if_pos (show ([a] : List Int).length + l.length < 17592186044416 by simp; omega), if_pos (show ([a] ++ l).length < 17592186044416 by simp; omega)]
  exact Ev.bind (implHash_ev _ (by simp; omega)) (Ev.now _)

theorem specBytesToInts_l0 (l : List Int) (hl : l.length ≤ 1048576) (w : ∀ x ∈ l, (Lit.int .u8 x).wf = true) (d : Nat) : ∀ (i : Nat) (acc : List Int), l.length - i = d → acc.length = i + 1 → Ev (fun k => spec_BytesToInts.l0 k l acc (i : Int)) (acc ++ l.drop i) := by
  induction d with
  | zero =>
    intro i acc hd ha
    rw [List.drop_eq_nil_of_le (by omega), List.append_nil]
    refine Ev.step (f := fun _ => some acc) (fun k => ?_) (Ev.now acc)
    simp only [spec_BytesToInts.l0]
    rw [if_neg (by omega)]
  | succ d ih =>
    intro i acc hd ha
    have h : i < l.length := by omega
    have hw := wf8 (w _ (List.getElem_mem h))
    rw [drop_eq_cons l i h, List.append_cons]
    refine Ev.step (f := fun k => spec_BytesToInts.l0 k l (acc ++ [l[i]]) ((i + 1 : Nat) : Int)) (fun k => ?_) (ih (i + 1) (acc ++ [l[i]]) (by omega) (by simp [ha]))
    simp only [spec_BytesToInts.l0]
    rw [if_pos (by omega), if_pos (by omega), if_pos (by omega), rd_nat l i h, wrap_id (x := l[i]) (by omega) (by omega), wrap_id (x := (i : Int) + 1) (by omega) (by omega)]
    rfl
theorem implBytesToInts_l0 (l : List Int) (hl : l.length ≤ 1048576) (w : ∀ x ∈ l, (Lit.int .u8 x).wf = true) (d : Nat) : ∀ (i : Nat) (acc : List Int), l.length - i = d → acc.length = i + 1 → Ev (fun k => impl_BytesToInts.l0 k acc l (l.length : Int) (i : Int)) (acc ++ l.drop i) := by
  induction d with
  | zero =>
    intro i acc hd ha
    rw [List.drop_eq_nil_of_le (by omega), List.append_nil]
    refine Ev.step (f := fun _ => some acc) (fun k => ?_) (Ev.now acc)
    simp only [impl_BytesToInts.l0]
    rw [if_neg (by omega)]
  | succ d ih =>
    intro i acc hd ha
    have h : i < l.length := by omega
    have hw := wf8 (w _ (List.getElem_mem h))
    rw [drop_eq_cons l i h, List.append_cons]
    refine Ev.step (f := fun k => impl_BytesToInts.l0 k (acc ++ [l[i]]) l (l.length : Int) ((i + 1 : Nat) : Int)) (fun k => ?_) (ih (i + 1) (acc ++ [l[i]]) (by omega) (by simp [ha]))
    simp only [impl_BytesToInts.l0]
    rw [if_pos (by omega), if_pos (by omega), if_pos (by omega), if_pos (by omega), rd_nat l i h, wrap_id (x := l[i]) (by omega) (by omega), wrap_id (x := (i : Int) + 1) (by omega) (by omega)]
    rfl
theorem specBytesToInts_ev (l : List Int) (hl : l.length ≤ 1048576) (w : ∀ x ∈ l, (Lit.int .u8 x).wf = true) : Ev (fun k => spec_BytesToInts.f k l) ((l.length : Int) :: l) := by
  unfold spec_BytesToInts.f
  exact specBytesToInts_l0 l hl w l.length 0 [(l.length : Int)] (by omega) rfl
theorem implBytesToInts_ev (l : List Int) (hl : l.length ≤ 1048576) (w : ∀ x ∈ l, (Lit.int .u8 x).wf = true) : Ev (fun k => impl_BytesToInts.f k l) ((l.length : Int) :: l) := by
  unfold impl_BytesToInts.f
  exact implBytesToInts_l0 l hl w l.length 0 [(l.length : Int)] (by omega) rfl

theorem nums_bytes (s : ByteArray) : ∀ x ∈ spec_DeriveFromString.nums s, (Lit.int .u8 x).wf = true := by
  intro x hx
  unfold spec_DeriveFromString.nums at hx
  obtain ⟨b, _, rfl⟩ := List.mem_map.1 hx
  have := b.toNat_lt
  exact to_wf8 (by omega) (by omega)
theorem nums_same (s : ByteArray) : impl_DeriveFromString.nums s = spec_DeriveFromString.nums s := rfl
def dfs (a : Int) (s : ByteArray) : Int := hashFrom ([a] ++ (((spec_DeriveFromString.nums s).length : Int) :: spec_DeriveFromString.nums s) ++ [a]) 11
theorem dfs_range (a : Int) (s : ByteArray) : 0 ≤ dfs a s ∧ dfs a s < 2147483647 := hash_range _ 11 (by decide) (by decide)
theorem specDfs_ev (a : Int) (s : ByteArray) (hs : s.size ≤ 1048576) : Ev (fun k => spec_DeriveFromString.f k a s) (if dfs a s = 0 then 1 else dfs a s) := by
  have hl := spec_DeriveFromString.nums_len s
  have hr := dfs_range a s
  unfold spec_DeriveFromString.f
  simp only [if_pos (show s.size ≤ 140737488351232 by omega)]
  refine Ev.bind (specBytesToInts_ev _ (by omega) (nums_bytes s)) ?_
  refine Ev.bind (specKeyed_ev a _ (by simp only [List.length_cons]; omega)) ?_
  have e : spec_Max.f 1 (hashFrom ([a] ++ (((spec_DeriveFromString.nums s).length : Int) :: spec_DeriveFromString.nums s) ++ [a]) 11) = some (if dfs a s = 0 then 1 else dfs a s) := by
    show spec_Max.f 1 (dfs a s) = _
    unfold spec_Max.f
    by_cases c : dfs a s = 0
    · rw [if_pos c, if_neg (by omega)]
    · rw [if_neg c]
      by_cases c2 : dfs a s > 1
      · rw [if_pos c2]
      · rw [if_neg c2, show dfs a s = 1 by omega]
  simp only [e, Option.bind_some]
  exact Ev.now _
theorem implDfs_ev (a : Int) (s : ByteArray) (hs : s.size ≤ 1048576) : Ev (fun k => impl_DeriveFromString.f k a s) (if dfs a s = 0 then 1 else dfs a s) := by
  have hl := spec_DeriveFromString.nums_len s
  unfold impl_DeriveFromString.f
  simp only [if_pos (show s.size ≤ 140737488351232 by omega), nums_same]
  refine Ev.bind (implBytesToInts_ev _ (by omega) (nums_bytes s)) ?_
  refine Ev.bind (implKeyed_ev a _ (by simp only [List.length_cons]; omega)) ?_
  show Ev (fun k => if dfs a s = 0 then some 1 else some (dfs a s)) _
  split <;> exact Ev.now _

theorem FnExactDeriveFromString : laws_FnExactDeriveFromString.Pure := by
  intro a s _ _
  refine Ev.rounds ?_
  unfold laws_FnExactDeriveFromString.f
  by_cases c : (s.size : Int) > 1048576
  · simp only [if_pos c]; exact Ev.now true
  simp only [if_neg c]
  refine Ev.bind (specDfs_ev a s (by omega)) ?_
  refine Ev.bind (implDfs_ev a s (by omega)) ?_
  simp only [if_true]
  exact Ev.now true

end Go.Proofs.Ytdfjpnpkgigolaa.Pure
