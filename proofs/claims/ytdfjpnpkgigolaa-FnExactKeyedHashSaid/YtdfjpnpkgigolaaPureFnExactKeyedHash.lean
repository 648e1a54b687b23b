/-
  For all arguments, the program's KeyedHash returns what the reference's KeyedHash returns.
  Conditions: none beside the given statement's own.
-/
import Derived.Test.YtdfjpnpkgigolaaPFnExactKeyedHashx1
namespace Go.Proofs.Ytdfjpnpkgigolaa.Pure
open Go.RowKit Go.Proofs.Ytdfjpnpkgigolaa.PFnExactKeyedHash Go.Proofs.YtdfjpnpkgigolaaW.PrintWords Go.Proofs.YtdfjpnpkgigolaaW.PrintLast Go.Proofs.YtdfjpnpkgigolaaW.PrintMore

theorem wrap_id {x : Int} (h1 : -9223372036854775808 ≤ x) (h2 : x < 9223372036854775808) : wrap64 x = x := by unfold wrap64; omega
theorem rd_nat (l : List Int) (i : Nat) (h : i < l.length) : rd l (i : Int) = l[i] := by
  unfold rd; rw [Int.toNat_natCast, List.getD_eq_getElem?_getD, List.getElem?_eq_getElem h]; rfl
theorem wf64 {x : Int} (h : (Lit.int .i64 x).wf = true) : -9223372036854775808 ≤ x ∧ x < 9223372036854775808 := by
  have h1 : IntKind.i64.min = -9223372036854775808 := by decide
  have h2 : IntKind.i64.max = 9223372036854775807 := by decide
  simp only [Lit.wf, h1, h2, Bool.and_eq_true, decide_eq_true_eq] at h
  omega
theorem wf8 {x : Int} (h : (Lit.int .u8 x).wf = true) : 0 ≤ x ∧ x < 256 := by
  have h1 : IntKind.u8.min = 0 := by decide
  have h2 : IntKind.u8.max = 255 := by decide
  simp only [Lit.wf, h1, h2, Bool.and_eq_true, decide_eq_true_eq] at h
  omega
theorem set_take (l x : List Int) (i : Nat) (h : i < l.length) (hx : x.length = l.length) (ht : x.take i = l.take i) : (x.set i l[i]).take (i + 1) = l.take (i + 1) := by
  apply List.ext_getElem?
  intro j
  simp only [List.getElem?_take, List.getElem?_set]
  have hj : (x.take i)[j]? = (l.take i)[j]? := by rw [ht]
  simp only [List.getElem?_take] at hj
  by_cases h1 : j < i + 1
  · rw [if_pos h1, if_pos h1]
    by_cases h2 : i = j
    · subst h2; rw [if_pos rfl, if_pos (by omega), List.getElem?_eq_getElem h]
    · rw [if_neg h2]; rw [if_pos (by omega), if_pos (by omega)] at hj; exact hj
  · rw [if_neg h1, if_neg h1]
theorem drop_eq_cons (l : List Int) (i : Nat) (h : i < l.length) : l.drop i = l[i] :: l.drop (i + 1) := List.drop_eq_getElem_cons h
theorem cons_iff {a b : Int} (e : a = b) (l x : List Int) : (a :: l = b :: x) ↔ l = x := by
  rw [e]
  exact ⟨fun h => (List.cons.inj h).2, fun h => by rw [h]⟩
theorem take_full (l x : List Int) (i : Nat) (hi : l.length ≤ i) (hx : x.length = l.length) (ht : x.take i = l.take i) : x = l := by
  rwa [List.take_of_length_le (by omega), List.take_of_length_le hi] at ht

theorem toIntS_l0 (l : List Int) (hl : l.length ≤ 1048576) (d : Nat) : ∀ (i : Nat) (x : List Int), l.length - i = d → i ≤ l.length → x.length = l.length → x.take i = l.take i → Ev (fun k => laws_toIntS.l0 k l x (i : Int)) l := by
  induction d with
  | zero =>
    intro i x hd hi hx ht
    obtain rfl := take_full l x i (by omega) hx ht
    refine Ev.step (f := fun _ => some x) (fun k => ?_) (Ev.now x)
    simp only [laws_toIntS.l0]
    rw [if_neg (by omega)]
  | succ d ih =>
    intro i x hd hi hx ht
    have h : i < l.length := by omega
    refine Ev.step (f := fun k => laws_toIntS.l0 k l (x.set i l[i]) ((i + 1 : Nat) : Int)) (fun k => ?_) (ih (i + 1) _ (by omega) (by omega) (by simpa using hx) (set_take l x i h hx ht))
    simp only [laws_toIntS.l0]
    rw [if_pos (by omega), if_pos (by omega), if_pos (by omega), rd_nat l i h, wrap_id (by omega) (by omega), Int.toNat_natCast]
    rfl
theorem toIntS_ev (l : List Int) (hl : l.length ≤ 1048576) : Ev (fun k => laws_toIntS.f k l) l := by
  refine Ev.congr (f := fun k => laws_toIntS.l0 k l (List.replicate l.length 0) ((0 : Nat) : Int)) (fun k => ?_) (toIntS_l0 l hl l.length 0 _ (by omega) (by omega) (by simp) (by simp))
  unfold laws_toIntS.f
  rw [if_pos (by omega), Int.toNat_natCast, if_pos (by omega)]
  rfl

theorem eqIntS_l0 (l x : List Int) (hl : l.length ≤ 2097152) (hx : x.length = l.length) (d : Nat) : ∀ (i : Nat), l.length - i = d → i ≤ l.length → Ev (fun k => laws_eqIntS.l0 k l x (i : Int)) (decide (l.drop i = x.drop i)) := by
  induction d with
  | zero =>
    intro i hd hi
    rw [List.drop_eq_nil_of_le (by omega), List.drop_eq_nil_of_le (by omega), decide_eq_true rfl]
    refine Ev.step (f := fun _ => some true) (fun k => ?_) (Ev.now true)
    simp only [laws_eqIntS.l0]
    rw [if_neg (by omega)]
  | succ d ih =>
    intro i hd hi
    have h : i < l.length := by omega
    have h' : i < x.length := by omega
    rw [drop_eq_cons l i h, drop_eq_cons x i h']
    by_cases e : l[i] = x[i]
    · rw [decide_eq_decide.2 (cons_iff e _ _)]
      refine Ev.step (f := fun k => laws_eqIntS.l0 k l x ((i + 1 : Nat) : Int)) (fun k => ?_) (ih (i + 1) (by omega) (by omega))
      simp only [laws_eqIntS.l0]
      rw [if_pos (by omega), if_pos (by omega), if_pos (by omega), rd_nat l i h, rd_nat x i h', if_pos e, wrap_id (by omega) (by omega)]
      rfl
    · rw [decide_eq_false fun h => e (List.cons.inj h).1]
      refine Ev.step (f := fun _ => some false) (fun k => ?_) (Ev.now false)
      simp only [laws_eqIntS.l0]
      rw [if_pos (by omega), if_pos (by omega), if_pos (by omega), rd_nat l i h, rd_nat x i h', if_neg e]
theorem eqIntS_ev (l x : List Int) (hl : l.length ≤ 2097152) : Ev (fun k => laws_eqIntS.f k l x) (decide (l = x)) := by
  by_cases e : l.length = x.length
  · refine Ev.congr (f := fun k => laws_eqIntS.l0 k l x ((0 : Nat) : Int)) (fun k => ?_) (by simpa using eqIntS_l0 l x hl e.symm l.length 0 (by omega) (by omega))
    unfold laws_eqIntS.f
    rw [if_pos (by omega)]
    rfl
  · rw [decide_eq_false (fun h => e (by rw [h]))]
    refine Ev.congr (f := fun _ => some false) (fun k => ?_) (Ev.now false)
    unfold laws_eqIntS.f
    rw [if_neg (by omega)]
theorem eqIntS_self (l : List Int) (hl : l.length ≤ 2097152) : Ev (fun k => laws_eqIntS.f k l l) true := by
  simpa using eqIntS_ev l l hl

theorem l1In_eq (a b c : Int) : spec_l1In.f a b c = some (decide (b ≤ a ∧ a ≤ c)) := by
  unfold spec_l1In.f
  by_cases h : a ≥ b
  · rw [if_pos h]; congr 1; by_cases h2 : a ≤ c <;> simp [h2] <;> omega
  · rw [if_neg h]; congr 1; simp; omega
theorem InRange_eq (a b c : Int) : impl_InRange.f a b c = some (decide (b ≤ a ∧ a ≤ c)) := by
  unfold impl_InRange.f
  by_cases h : b ≤ a
  · rw [if_pos h]; congr 1; by_cases h2 : a ≤ c <;> simp [h2] <;> omega
  · rw [if_neg h]; congr 1; simp; omega

theorem Mod_same (a b : Int) : spec_Mod.f a b = impl_Mod.f a b := by
  unfold spec_Mod.f impl_Mod.f
  simp only [l1In_eq, InRange_eq]
theorem Mod_some (a b : Int) : ∃ r, impl_Mod.f a b = some r := by
  unfold impl_Mod.f
  simp only [InRange_eq, Option.bind_some]
  split
  · rename_i h
    simp at h
    rw [if_neg (by omega)]
    exact ⟨_, rfl⟩
  · exact ⟨_, rfl⟩

def hashFrom : List Int → Int → Int
  | [], s => s
  | a :: l, s => hashFrom l (Int.tmod (wrap64 (wrap64 (wrap64 (s * 1000003) + Int.tmod (wrap64 (Int.tmod a 2147483647 + 2147483647)) 2147483647) + 13)) 2147483647)
theorem Mod_mod (a : Int) : impl_Mod.f a 2147483647 = some (Int.tmod (wrap64 (Int.tmod a 2147483647 + 2147483647)) 2147483647) := by
  unfold impl_Mod.f
  simp only [InRange_eq, Option.bind_some]
  rw [if_pos (by decide), if_neg (by decide)]
theorem specMod_mod (a : Int) : spec_Mod.f a 2147483647 = some (Int.tmod (wrap64 (Int.tmod a 2147483647 + 2147483647)) 2147483647) := (Mod_same a _).trans (Mod_mod a)
theorem implHash_l0 (l : List Int) (hl : l.length ≤ 4194304) (d : Nat) : ∀ (i : Nat) (s : Int), l.length - i = d → Ev (fun k => impl_Hash.l0 k s l (l.length : Int) (i : Int)) (hashFrom (l.drop i) s) := by
  induction d with
  | zero =>
    intro i s hd
    rw [List.drop_eq_nil_of_le (by omega)]
    refine Ev.step (f := fun _ => some s) (fun k => ?_) (Ev.now s)
    simp only [impl_Hash.l0]
    rw [if_neg (by omega)]
  | succ d ih =>
    intro i s hd
    have h : i < l.length := by omega
    rw [drop_eq_cons l i h]
    refine Ev.step (f := fun k => impl_Hash.l0 k _ l (l.length : Int) ((i + 1 : Nat) : Int)) (fun k => ?_) (ih (i + 1) _ (by omega))
    simp only [impl_Hash.l0]
    rw [if_pos (by omega), if_pos (by omega), if_pos (by omega), rd_nat l i h, Mod_mod, wrap_id (x := (i : Int) + 1) (by omega) (by omega)]
    rfl
theorem specHash_l0 (l : List Int) (hl : l.length ≤ 4194304) (d : Nat) : ∀ (i : Nat) (s : Int), l.length - i = d → Ev (fun k => spec_Hash.l0 k l s (i : Int)) (hashFrom (l.drop i) s) := by
  induction d with
  | zero =>
    intro i s hd
    rw [List.drop_eq_nil_of_le (by omega)]
    refine Ev.step (f := fun _ => some s) (fun k => ?_) (Ev.now s)
    simp only [spec_Hash.l0]
    rw [if_neg (by omega)]
  | succ d ih =>
    intro i s hd
    have h : i < l.length := by omega
    rw [drop_eq_cons l i h]
    refine Ev.step (f := fun k => spec_Hash.l0 k l _ ((i + 1 : Nat) : Int)) (fun k => ?_) (ih (i + 1) _ (by omega))
    simp only [spec_Hash.l0]
    rw [if_pos (by omega), if_pos (by omega), rd_nat l i h, specMod_mod, wrap_id (x := (i : Int) + 1) (by omega) (by omega)]
    rfl
theorem implHash_ev (l : List Int) (hl : l.length ≤ 4194304) : Ev (fun k => impl_Hash.f k l) (hashFrom l 11) := by
  have := implHash_l0 l hl l.length 0 11 (by omega)
  unfold impl_Hash.f
  exact this
theorem specHash_ev (l : List Int) (hl : l.length ≤ 4194304) : Ev (fun k => spec_Hash.f k l) (hashFrom l 11) := by
  have := specHash_l0 l hl l.length 0 11 (by omega)
  unfold spec_Hash.f
  exact this

theorem specKeyed_ev (a : Int) (l : List Int) (hl : l.length ≤ 1048576) : Ev (fun k => spec_KeyedHash.f k a l) (hashFrom ([a] ++ l ++ [a]) 11) := by
  unfold spec_KeyedHash.f
  simp only [Option.bind_some]
  simp only [if_pos (show ([a] : List Int).length + l.length < 17592186044416 by simp; omega), if_pos (show ([a] ++ l).length < 17592186044416 by simp; omega)]
  exact Ev.bind (specHash_ev _ (by simp; omega)) (Ev.now _)
theorem implKeyed_ev (a : Int) (l : List Int) (hl : l.length ≤ 1048576) : Ev (fun k => impl_KeyedHash.f k a l) (hashFrom ([a] ++ l ++ [a]) 11) := by
  unfold impl_KeyedHash.f
  simp only [Option.bind_some]
  simp only [if_pos (show ([a] : List Int).length + l.length < 17592186044416 by simp; omega), if_pos (show ([a] ++ l).length < 17592186044416 by simp; omega)]
  exact Ev.bind (implHash_ev _ (by simp; omega)) (Ev.now _)
theorem FnExactKeyedHash : laws_FnExactKeyedHash.Pure := by
  intro a0 l1 _ _ _ w1
  refine Ev.rounds ?_
  unfold laws_FnExactKeyedHash.f
  by_cases c_l1 : (l1.length : Int) > 1048576
  · simp only [if_pos c_l1]; exact Ev.now true
  have b_l1 : l1.length ≤ 1048576 := by omega
  simp only [if_neg c_l1]
  refine Ev.bind (toIntS_ev l1 b_l1) ?_
  refine Ev.bind (specKeyed_ev a0 l1 (by omega)) ?_
  refine Ev.bind (toIntS_ev l1 b_l1) ?_
  refine Ev.bind (implKeyed_ev a0 l1 (by omega)) ?_
  simp only [if_true]
  refine Ev.bind (toIntS_ev l1 b_l1) ?_
  refine Ev.bind (eqIntS_self l1 (by omega)) ?_
  simp only [if_true]
  exact Ev.now true

end Go.Proofs.Ytdfjpnpkgigolaa.Pure
