/-
  For all arguments, the program's Decrypt returns what the reference's Decrypt returns.
  Conditions: none beside the given statement's own.
-/
import Derived.Test.YtdfjpnpkgigolaaPFnExactDecryptx3
set_option linter.unusedSimpArgs false
namespace Go.Proofs.Ytdfjpnpkgigolaa.Pure
open Go.RowKit Go.Proofs.Ytdfjpnpkgigolaa.PFnExactDecrypt Go.Proofs.YtdfjpnpkgigolaaW.PrintWords Go.Proofs.YtdfjpnpkgigolaaW.PrintLast Go.Proofs.YtdfjpnpkgigolaaW.PrintMore

theorem wrap_id {x : Int} (h1 : -9223372036854775808 ≤ x) (h2 : x < 9223372036854775808) : wrap64 x = x := by unfold wrap64; omega
theorem rd_nat (l : List Int) (i : Nat) (h : i < l.length) : rd l (i : Int) = l[i] := by
  unfold rd; rw [Int.toNat_natCast, List.getD_eq_getElem?_getD, List.getElem?_eq_getElem h]; rfl
theorem wf64 {x : Int} (h : (Lit.int .i64 x).wf = true) : -9223372036854775808 ≤ x ∧ x < 9223372036854775808 := by
  have h1 : IntKind.i64.min = -9223372036854775808 := by decide
  have h2 : IntKind.i64.max = 9223372036854775807 := by decide
  simp only [Lit.wf, h1, h2, Bool.and_eq_true, decide_eq_true_eq] at h
  omega
theorem wf8 {x : Int} (h : (Lit.int .u8 x).wf = true) : 0 ≤ x ∧ x < 256 := by
  have h1 : IntKind.u8.min = 0 := by decide
  have h2 : IntKind.u8.max = 255 := by decide
  simp only [Lit.wf, h1, h2, Bool.and_eq_true, decide_eq_true_eq] at h
  omega
theorem set_take (l x : List Int) (i : Nat) (h : i < l.length) (hx : x.length = l.length) (ht : x.take i = l.take i) : (x.set i l[i]).take (i + 1) = l.take (i + 1) := by
  apply List.ext_getElem?
  intro j
  simp only [List.getElem?_take, List.getElem?_set]
  have hj : (x.take i)[j]? = (l.take i)[j]? := by rw [ht]
  simp only [List.getElem?_take] at hj
  by_cases h1 : j < i + 1
  · rw [if_pos h1, if_pos h1]
    by_cases h2 : i = j
    · subst h2; rw [if_pos rfl, if_pos (by omega), List.getElem?_eq_getElem h]
    · rw [if_neg h2]; rw [if_pos (by omega), if_pos (by omega)] at hj; exact hj
  · rw [if_neg h1, if_neg h1]
theorem drop_eq_cons (l : List Int) (i : Nat) (h : i < l.length) : l.drop i = l[i] :: l.drop (i + 1) := List.drop_eq_getElem_cons h
theorem cons_iff {a b : Int} (e : a = b) (l x : List Int) : (a :: l = b :: x) ↔ l = x := by
  rw [e]
  exact ⟨fun h => (List.cons.inj h).2, fun h => by rw [h]⟩
theorem take_full (l x : List Int) (i : Nat) (hi : l.length ≤ i) (hx : x.length = l.length) (ht : x.take i = l.take i) : x = l := by
  rwa [List.take_of_length_le (by omega), List.take_of_length_le hi] at ht

theorem toByteS_l0 (l : List Int) (hl : l.length ≤ 1048576) (d : Nat) : ∀ (i : Nat) (x : List Int), l.length - i = d → i ≤ l.length → x.length = l.length → x.take i = l.take i → Ev (fun k => laws_toByteS.l0 k l x (i : Int)) l := by
  induction d with
  | zero =>
    intro i x hd hi hx ht
    obtain rfl := take_full l x i (by omega) hx ht
    refine Ev.step (f := fun _ => some x) (fun k => ?_) (Ev.now x)
    simp only [laws_toByteS.l0]
    rw [if_neg (by omega)]
  | succ d ih =>
    intro i x hd hi hx ht
    have h : i < l.length := by omega
    refine Ev.step (f := fun k => laws_toByteS.l0 k l (x.set i l[i]) ((i + 1 : Nat) : Int)) (fun k => ?_) (ih (i + 1) _ (by omega) (by omega) (by simpa using hx) (set_take l x i h hx ht))
    simp only [laws_toByteS.l0]
    rw [if_pos (by omega), if_pos (by omega), if_pos (by omega), rd_nat l i h, wrap_id (by omega) (by omega), Int.toNat_natCast]
    rfl
theorem toByteS_ev (l : List Int) (hl : l.length ≤ 1048576) : Ev (fun k => laws_toByteS.f k l) l := by
  refine Ev.congr (f := fun k => laws_toByteS.l0 k l (List.replicate l.length 0) ((0 : Nat) : Int)) (fun k => ?_) (toByteS_l0 l hl l.length 0 _ (by omega) (by omega) (by simp) (by simp))
  unfold laws_toByteS.f
  rw [if_pos (by omega), Int.toNat_natCast, if_pos (by omega)]
  rfl

theorem eqByteS_l0 (l x : List Int) (hl : l.length ≤ 16777216) (hx : x.length = l.length) (d : Nat) : ∀ (i : Nat), l.length - i = d → i ≤ l.length → Ev (fun k => laws_eqByteS.l0 k l x (i : Int)) (decide (l.drop i = x.drop i)) := by
  induction d with
  | zero =>
    intro i hd hi
    rw [List.drop_eq_nil_of_le (by omega), List.drop_eq_nil_of_le (by omega), decide_eq_true rfl]
    refine Ev.step (f := fun _ => some true) (fun k => ?_) (Ev.now true)
    simp only [laws_eqByteS.l0]
    rw [if_neg (by omega)]
  | succ d ih =>
    intro i hd hi
    have h : i < l.length := by omega
    have h' : i < x.length := by omega
    rw [drop_eq_cons l i h, drop_eq_cons x i h']
    by_cases e : l[i] = x[i]
    · rw [decide_eq_decide.2 (cons_iff e _ _)]
      refine Ev.step (f := fun k => laws_eqByteS.l0 k l x ((i + 1 : Nat) : Int)) (fun k => ?_) (ih (i + 1) (by omega) (by omega))
      simp only [laws_eqByteS.l0]
      rw [if_pos (by omega), if_pos (by omega), if_pos (by omega), rd_nat l i h, rd_nat x i h', if_pos e, wrap_id (by omega) (by omega)]
      rfl
    · rw [decide_eq_false fun h => e (List.cons.inj h).1]
      refine Ev.step (f := fun _ => some false) (fun k => ?_) (Ev.now false)
      simp only [laws_eqByteS.l0]
      rw [if_pos (by omega), if_pos (by omega), if_pos (by omega), rd_nat l i h, rd_nat x i h', if_neg e]
theorem eqByteS_ev (l x : List Int) (hl : l.length ≤ 16777216) : Ev (fun k => laws_eqByteS.f k l x) (decide (l = x)) := by
  by_cases e : l.length = x.length
  · refine Ev.congr (f := fun k => laws_eqByteS.l0 k l x ((0 : Nat) : Int)) (fun k => ?_) (by simpa using eqByteS_l0 l x hl e.symm l.length 0 (by omega) (by omega))
    unfold laws_eqByteS.f
    rw [if_pos (by omega)]
    rfl
  · rw [decide_eq_false (fun h => e (by rw [h]))]
    refine Ev.congr (f := fun _ => some false) (fun k => ?_) (Ev.now false)
    unfold laws_eqByteS.f
    rw [if_neg (by omega)]
theorem eqByteS_self (l : List Int) (hl : l.length ≤ 16777216) : Ev (fun k => laws_eqByteS.f k l l) true := by
  simpa using eqByteS_ev l l hl

theorem markByteS_l0 (d : Nat) : ∀ (x : List Int) (a : Int) (i : Nat), x.length ≤ 16777216 → x.length - i = d → i ≤ x.length → 0 < a → a + d < 1073741824 → ∃ y : List Int, y.length = x.length ∧ (∀ j : Nat, j < i → rd y j = rd x j) ∧ (∀ j : Nat, i ≤ j → j < x.length → rd y j = (a + (j - i : Nat)) % 256) ∧ Ev (fun k => laws_markByteS.l0 k x a (i : Int)) (a + d, y) := by
  induction d with
  | zero =>
    intro x a i hl hd hi h0 h1
    refine ⟨x, rfl, fun _ _ => rfl, fun j h2 h3 => by omega, ?_⟩
    refine Ev.step (f := fun _ => some (a, x)) (fun k => ?_) (by simpa using Ev.now (a, x))
    simp only [laws_markByteS.l0]
    rw [if_neg (by omega)]
  | succ d ih =>
    intro x a i hl hd hi h0 h1
    have h : i < x.length := by omega
    obtain ⟨y, hy, hy1, hy2, hy3⟩ := ih (x.set i (a % 256)) (a + 1) (i + 1) (by simpa using hl) (by simp; omega) (by simp; omega) (by omega) (by omega)
    refine ⟨y, by simpa using hy, fun j hj => ?_, fun j h2 h3 => ?_, ?_⟩
    · rw [hy1 j (by omega), rd_nat _ j (by simp; omega), rd_nat _ j (by omega), List.getElem_set_ne (by omega)]
    · by_cases e : i = j
      · subst e
        rw [hy1 i (by omega), rd_nat _ i (by simp; omega), List.getElem_set_self]
        simp
      · rw [hy2 j (by omega) (by simpa using h3)]
        have : a + 1 + ((j - (i + 1) : Nat) : Int) = a + ((j - i : Nat) : Int) := by omega
        rw [this]
    · have e : a + ((d + 1 : Nat) : Int) = a + 1 + (d : Int) := by omega
      rw [e]
      refine Ev.step (f := fun k => laws_markByteS.l0 k (x.set i (a % 256)) (a + 1) ((i + 1 : Nat) : Int)) (fun k => ?_) hy3
      simp only [laws_markByteS.l0]
      rw [if_pos (by omega), if_pos (by omega), wrap_id (x := a + 1) (by omega) (by omega), wrap_id (x := (i : Int) + 1) (by omega) (by omega), Int.toNat_natCast]
      rfl
theorem markByteS_ev (x : List Int) (a : Int) (hl : x.length ≤ 16777216) (h0 : 0 < a) (h1 : a + x.length < 1073741824) : ∃ y : List Int, y.length = x.length ∧ (∀ j : Nat, j < y.length → rd y j = (a + (j : Nat)) % 256) ∧ Ev (fun k => laws_markByteS.f k x a) (a + (x.length : Int), y) := by
  obtain ⟨y, hy, _, hy2, hy3⟩ := markByteS_l0 x.length x a 0 hl (by omega) (by omega) h0 (by omega)
  exact ⟨y, hy, fun j hj => by simpa using hy2 j (by omega) (by omega), Ev.congr (f := fun k => laws_markByteS.l0 k x a ((0 : Nat) : Int)) (fun k => rfl) hy3⟩

theorem heldByteS_l0 (d : Nat) : ∀ (y : List Int) (a : Int) (i : Nat), y.length ≤ 16777216 → y.length - i = d → i ≤ y.length → 0 < a → a + d < 1073741824 → (∀ j : Nat, i ≤ j → j < y.length → rd y j = (a + (j - i : Nat)) % 256) → Ev (fun k => laws_heldByteS.l0 k y a (i : Int)) (a + d) := by
  induction d with
  | zero =>
    intro y a i hl hd hi h0 h1 hy
    refine Ev.step (f := fun _ => some a) (fun k => ?_) (by simpa using Ev.now a)
    simp only [laws_heldByteS.l0]
    rw [if_neg (by omega)]
  | succ d ih =>
    intro y a i hl hd hi h0 h1 hy
    have e : a + ((d + 1 : Nat) : Int) = a + 1 + (d : Int) := by omega
    rw [e]
    have hri := hy i (by omega) (by omega)
    simp only [Nat.sub_self, Int.natCast_zero, Int.add_zero] at hri
    refine Ev.step (f := fun k => laws_heldByteS.l0 k y (a + 1) ((i + 1 : Nat) : Int)) (fun k => ?_) (ih y (a + 1) (i + 1) hl (by omega) (by omega) (by omega) (by omega) fun j h2 h3 => ?_)
    · simp only [laws_heldByteS.l0]
      rw [if_pos (by omega), if_pos (by omega), if_pos hri, wrap_id (x := a + 1) (by omega) (by omega), wrap_id (x := (i : Int) + 1) (by omega) (by omega)]
      rfl
    · rw [hy j (by omega) h3]
      have : a + 1 + ((j - (i + 1) : Nat) : Int) = a + ((j - i : Nat) : Int) := by omega
      rw [this]
theorem heldByteS_ev (y : List Int) (a : Int) (n : Nat) (hn : y.length = n) (hl : n ≤ 16777216) (h0 : 0 < a) (h1 : a + n < 1073741824) (hy : ∀ j : Nat, j < y.length → rd y j = (a + (j : Nat)) % 256) : Ev (fun k => laws_heldByteS.f k y a) (a + (n : Int)) := by
  refine Ev.congr (f := fun k => laws_heldByteS.l0 k y a ((0 : Nat) : Int)) (fun k => rfl) ?_
  exact heldByteS_l0 n y a 0 (by omega) (by omega) (by omega) h0 h1 fun j _ hj => by simpa using hy j hj

theorem l1In_eq (a b c : Int) : spec_l1In.f a b c = some (decide (b ≤ a ∧ a ≤ c)) := by
  unfold spec_l1In.f
  by_cases h : a ≥ b
  · rw [if_pos h]; congr 1; by_cases h2 : a ≤ c <;> simp [h2] <;> omega
  · rw [if_neg h]; congr 1; simp; omega
theorem InRange_eq (a b c : Int) : impl_InRange.f a b c = some (decide (b ≤ a ∧ a ≤ c)) := by
  unfold impl_InRange.f
  by_cases h : b ≤ a
  · rw [if_pos h]; congr 1; by_cases h2 : a ≤ c <;> simp [h2] <;> omega
  · rw [if_neg h]; congr 1; simp; omega

theorem Mod_same (a b : Int) : spec_Mod.f a b = impl_Mod.f a b := by
  unfold spec_Mod.f impl_Mod.f
  simp only [l1In_eq, InRange_eq]
theorem Mod_some (a b : Int) : ∃ r, impl_Mod.f a b = some r := by
  unfold impl_Mod.f
  simp only [InRange_eq, Option.bind_some]
  split
  · rename_i h
    simp at h
    rw [if_neg (by omega)]
    exact ⟨_, rfl⟩
  · exact ⟨_, rfl⟩

def hashFrom : List Int → Int → Int
  | [], s => s
  | a :: l, s => hashFrom l (Int.tmod (wrap64 (wrap64 (wrap64 (s * 1000003) + Int.tmod (wrap64 (Int.tmod a 2147483647 + 2147483647)) 2147483647) + 13)) 2147483647)
theorem Mod_mod (a : Int) : impl_Mod.f a 2147483647 = some (Int.tmod (wrap64 (Int.tmod a 2147483647 + 2147483647)) 2147483647) := by
  unfold impl_Mod.f
  simp only [InRange_eq, Option.bind_some]
  rw [if_pos (by decide), if_neg (by decide)]
theorem specMod_mod (a : Int) : spec_Mod.f a 2147483647 = some (Int.tmod (wrap64 (Int.tmod a 2147483647 + 2147483647)) 2147483647) := (Mod_same a _).trans (Mod_mod a)
theorem implHash_l0 (l : List Int) (hl : l.length ≤ 4194304) (d : Nat) : ∀ (i : Nat) (s : Int), l.length - i = d → Ev (fun k => impl_Hash.l0 k s l (l.length : Int) (i : Int)) (hashFrom (l.drop i) s) := by
  induction d with
  | zero =>
    intro i s hd
    rw [List.drop_eq_nil_of_le (by omega)]
    refine Ev.step (f := fun _ => some s) (fun k => ?_) (Ev.now s)
    simp only [impl_Hash.l0]
    rw [if_neg (by omega)]
  | succ d ih =>
    intro i s hd
    have h : i < l.length := by omega
    rw [drop_eq_cons l i h]
    refine Ev.step (f := fun k => impl_Hash.l0 k _ l (l.length : Int) ((i + 1 : Nat) : Int)) (fun k => ?_) (ih (i + 1) _ (by omega))
    simp only [impl_Hash.l0]
    rw [if_pos (by omega), if_pos (by omega), if_pos (by omega), rd_nat l i h, Mod_mod, wrap_id (x := (i : Int) + 1) (by omega) (by omega)]
    rfl
theorem specHash_l0 (l : List Int) (hl : l.length ≤ 4194304) (d : Nat) : ∀ (i : Nat) (s : Int), l.length - i = d → Ev (fun k => spec_Hash.l0 k l s (i : Int)) (hashFrom (l.drop i) s) := by
  induction d with
  | zero =>
    intro i s hd
    rw [List.drop_eq_nil_of_le (by omega)]
    refine Ev.step (f := fun _ => some s) (fun k => ?_) (Ev.now s)
    simp only [spec_Hash.l0]
    rw [if_neg (by omega)]
  | succ d ih =>
    intro i s hd
    have h : i < l.length := by omega
    rw [drop_eq_cons l i h]
    refine Ev.step (f := fun k => spec_Hash.l0 k l _ ((i + 1 : Nat) : Int)) (fun k => ?_) (ih (i + 1) _ (by omega))
    simp only [spec_Hash.l0]
    rw [if_pos (by omega), if_pos (by omega), rd_nat l i h, specMod_mod, wrap_id (x := (i : Int) + 1) (by omega) (by omega)]
    rfl
theorem implHash_ev (l : List Int) (hl : l.length ≤ 4194304) : Ev (fun k => impl_Hash.f k l) (hashFrom l 11) := by
  have := implHash_l0 l hl l.length 0 11 (by omega)
  unfold impl_Hash.f
  exact this
theorem specHash_ev (l : List Int) (hl : l.length ≤ 4194304) : Ev (fun k => spec_Hash.f k l) (hashFrom l 11) := by
  have := specHash_l0 l hl l.length 0 11 (by omega)
  unfold spec_Hash.f
  exact this

theorem hash_range (l : List Int) : ∀ s, 0 ≤ s → s < 2147483647 → 0 ≤ hashFrom l s ∧ hashFrom l s < 2147483647 := by
  induction l with
  | nil => intro s h0 h1; exact ⟨h0, h1⟩
  | cons a l ih =>
    intro s h0 h1
    simp only [hashFrom]
    have hm1 : -2147483647 < Int.tmod a 2147483647 := Int.lt_tmod_of_pos a (by decide)
    have hm2 : Int.tmod a 2147483647 < 2147483647 := Int.tmod_lt_of_pos a (by decide)
    rw [wrap_id (x := Int.tmod a 2147483647 + 2147483647) (by omega) (by omega), Int.tmod_eq_emod_of_nonneg (a := Int.tmod a 2147483647 + 2147483647) (by omega)]
    rw [wrap_id (x := s * 1000003) (by omega) (by omega), wrap_id (x := s * 1000003 + _) (by omega) (by omega), wrap_id (x := s * 1000003 + _ + 13) (by omega) (by omega), Int.tmod_eq_emod_of_nonneg (by omega)]
    exact ih _ (by omega) (by omega)
def kh (a i : Int) : Int := hashFrom ([a] ++ [i] ++ [a]) 11
theorem kh_range (a i : Int) : 0 ≤ kh a i ∧ kh a i < 2147483647 := hash_range _ 11 (by decide) (by decide)
theorem specKeyed_ev (a : Int) (l : List Int) (hl : l.length ≤ 1048576) : Ev (fun k => spec_KeyedHash.f k a l) (hashFrom ([a] ++ l ++ [a]) 11) := by
  unfold spec_KeyedHash.f
  simp only [Option.bind_some]
  simp only [if_pos (show ([a] : List Int).length + l.length < 17592186044416 by simp; omega), if_pos (show ([a] ++ l).length < 17592186044416 by simp; omega)]
  exact Ev.bind (specHash_ev _ (by simp; omega)) (Ev.now _)
theorem implKeyed_ev (a : Int) (l : List Int) (hl : l.length ≤ 1048576) : Ev (fun k => impl_KeyedHash.f k a l) (hashFrom ([a] ++ l ++ [a]) 11) := by
  unfold impl_KeyedHash.f
  simp only [Option.bind_some]
  simp only [if_pos (show ([a] : List Int).length + l.length < 17592186044416 by simp; omega), if_pos (show ([a] ++ l).length < 17592186044416 by simp; omega)]
  exact Ev.bind (implHash_ev _ (by simp; omega)) (Ev.now _)

theorem clone_eq (l : List Int) (hl : l.length ≤ 16777216) : slices_Clone_byte_byte.f l = some l := by
  unfold slices_Clone_byte_byte.f
  simp only [Option.bind_some]
  rw [if_pos (by simp; omega)]
  rfl

theorem Int.tmod_emod_eq (x : Int) : (Int.tmod x 256 + 256) % 256 = x % 256 := by
  have h := Int.tmod_add_mul_tdiv x 256
  omega

def decryptFrom (key : Int) : Nat → List Int → List Int
  | _, [] => []
  | i, b :: l => (b - kh key i) % 256 :: decryptFrom key (i + 1) l
theorem decryptFrom_len (key : Int) (l : List Int) : ∀ i, (decryptFrom key i l).length = l.length := by
  induction l with
  | nil => intro i; rfl
  | cons b l ih => intro i; simp [decryptFrom, ih]
theorem specDecrypt_l0 (key : Int) (l : List Int) (hl : l.length ≤ 1048576) (w : ∀ x ∈ l, (Lit.int .u8 x).wf = true) (d : Nat) : ∀ (i : Nat) (acc : List Int), l.length - i = d → acc.length = i → Ev (fun k => spec_Decrypt.l0 k key l acc (i : Int)) (acc ++ decryptFrom key i (l.drop i)) := by
  induction d with
  | zero =>
    intro i acc hd ha
    rw [List.drop_eq_nil_of_le (by omega)]
    refine Ev.step (f := fun _ => some acc) (fun k => ?_) (by simpa [decryptFrom] using Ev.now acc)
    simp only [spec_Decrypt.l0]
    rw [if_neg (by omega)]
  | succ d ih =>
    intro i acc hd ha
    have h : i < l.length := by omega
    have hw := wf8 (w _ (List.getElem_mem h))
    have hk := kh_range key i
    rw [drop_eq_cons l i h]
    simp only [decryptFrom]
    rw [List.append_cons]
    refine Ev.step (f := fun k => (spec_KeyedHash.f k key [(i : Int)]).bind fun t => (spec_Mod.f (wrap64 (wrap64 (l[i]) - Int.tmod t 256)) 256).bind fun u => if acc.length < 140737488355328 then spec_Decrypt.l0 k key l (acc ++ [u % 256]) ((i + 1 : Nat) : Int) else none) (fun k => ?_) (Ev.bind (specKeyed_ev key [(i : Int)] (by simp)) ?_)
    · simp only [spec_Decrypt.l0]
      rw [if_pos (by omega), if_pos (by omega), rd_nat l i h, wrap_id (x := (i : Int) + 1) (by omega) (by omega)]
      rfl
    · have e : spec_Mod.f (wrap64 (wrap64 (l[i]) - Int.tmod (hashFrom ([key] ++ [(i : Int)] ++ [key]) 11) 256)) 256 = some ((l[i] - kh key i) % 256) := by
        show spec_Mod.f (wrap64 (wrap64 (l[i]) - Int.tmod (kh key i) 256)) 256 = _
        rw [Int.tmod_eq_emod_of_nonneg hk.1, wrap_id (x := l[i]) (by omega) (by omega), wrap_id (x := l[i] - kh key i % 256) (by omega) (by omega), Mod_same]
        unfold impl_Mod.f
        simp only [InRange_eq, Option.bind_some]
        rw [if_pos (by decide), if_neg (by decide)]
        have h1 : -256 < Int.tmod (l[i] - kh key i % 256) 256 := Int.lt_tmod_of_pos _ (by decide)
        have h2 : Int.tmod (l[i] - kh key i % 256) 256 < 256 := Int.tmod_lt_of_pos _ (by decide)
        have h3 := Int.tmod_emod_eq (l[i] - kh key i % 256)
        rw [wrap_id (by omega) (by omega), Int.tmod_eq_emod_of_nonneg (by omega)]
        congr 1
        omega
      simp only [e, Option.bind_some, if_pos (show acc.length < 140737488355328 by omega)]
      rw [Int.emod_emod_of_dvd _ (Int.dvd_refl 256)]
      exact ih (i + 1) (acc ++ [(l[i] - kh key i) % 256]) (by omega) (by simp [ha])
theorem implDecrypt_l0 (key : Int) (N : Nat) (hN : N ≤ 1048576) (Q : List Int) : ∀ (P : List Int), P.length + Q.length = N → Ev (fun k => impl_Decrypt.l0 k key (P ++ Q) (N : Int) (P.length : Int)) (P ++ decryptFrom key P.length Q) := by
  induction Q with
  | nil =>
    intro P hP
    refine Ev.step (f := fun _ => some (P ++ [])) (fun k => ?_) (Ev.now _)
    simp only [impl_Decrypt.l0]
    simp only [List.length_nil] at hP
    rw [if_neg (by omega)]
  | cons b Q ih =>
    intro P hP
    simp only [List.length_cons] at hP
    have hk := kh_range key P.length
    simp only [decryptFrom]
    rw [List.append_cons P ((b - kh key P.length) % 256)]
    have hih := ih (P ++ [(b - kh key P.length) % 256]) (by simp; omega)
    simp only [List.length_append, List.length_cons, List.length_nil, Nat.zero_add] at hih
    refine Ev.step (f := fun k => (impl_KeyedHash.f k key [(P.length : Int)]).bind fun t => impl_Decrypt.l0 k key (P ++ (b - t % 256) % 256 :: Q) (N : Int) ((P.length + 1 : Nat) : Int)) (fun k => ?_) (Ev.bind (implKeyed_ev key [(P.length : Int)] (by simp)) ?_)
    · simp only [impl_Decrypt.l0]
      have hr : rd (P ++ b :: Q) (P.length : Int) = b := by rw [rd_nat _ _ (by simp)]; simp
      rw [if_pos (by omega), if_pos (by omega), if_pos (by simp; omega), hr, wrap_id (x := (P.length : Int) + 1) (by omega) (by omega), Int.toNat_natCast]
      simp only [List.set_append_right _ _ (Nat.le_refl _), Nat.sub_self, List.set_cons_zero]
      rfl
    · have e : (b - hashFrom ([key] ++ [(P.length : Int)] ++ [key]) 11 % 256) % 256 = (b - kh key P.length) % 256 := by
        show (b - kh key P.length % 256) % 256 = _
        omega
      rw [e, List.append_cons P]
      exact hih
theorem specDecrypt_ev (key : Int) (l : List Int) (hl : l.length ≤ 1048576) (w : ∀ x ∈ l, (Lit.int .u8 x).wf = true) : Ev (fun k => spec_Decrypt.f k key l) (decryptFrom key 0 l) := by
  unfold spec_Decrypt.f
  exact specDecrypt_l0 key l hl w l.length 0 [] (by omega) rfl
theorem implDecrypt_ev (key : Int) (l : List Int) (hl : l.length ≤ 1048576) : Ev (fun k => impl_Decrypt.f k key l) (decryptFrom key 0 l) := by
  unfold impl_Decrypt.f
  simp only [clone_eq l (by omega), Option.bind_some]
  exact implDecrypt_l0 key l.length hl l [] (by simp)

theorem FnExactDecrypt : laws_FnExactDecrypt.Pure := by
  intro a0 l1 _ _ _ w1
  refine Ev.rounds ?_
  unfold laws_FnExactDecrypt.f
  by_cases c_l1 : (l1.length : Int) > 1048576
  · simp only [if_pos c_l1]; exact Ev.now true
  have b_l1 : l1.length ≤ 1048576 := by omega
  simp only [if_neg c_l1]
  have hR : (decryptFrom a0 0 l1).length ≤ 16000000 := by rw [decryptFrom_len]; omega
  refine Ev.bind (toByteS_ev l1 b_l1) ?_
  refine Ev.bind (specDecrypt_ev a0 l1 b_l1 w1) ?_
  refine Ev.bind (toByteS_ev l1 b_l1) ?_
  refine Ev.bind (implDecrypt_ev a0 l1 b_l1) ?_
  refine Ev.bind (eqByteS_self (decryptFrom a0 0 l1) (by have := hR; omega)) ?_
  simp only [if_true, bne_self_eq_false, Bool.not_true, Bool.false_eq_true, if_false]
  refine Ev.bind (toByteS_ev l1 b_l1) ?_
  refine Ev.bind (eqByteS_self l1 (by omega)) ?_
  simp only [if_true]
  obtain ⟨y_l1, hy_l1, _, m_l1⟩ := markByteS_ev l1 (1) (by omega) (by omega) (by omega)
  refine Ev.bind m_l1 ?_
  simp only [if_neg (show ¬ (1 + (l1.length : Int) < 0) by omega)]
  refine Ev.bind (eqByteS_self (decryptFrom a0 0 l1) (by have := hR; omega)) ?_
  refine Ev.step (fun k => laws_FnExactDecrypt.j0.eq_2 _ _ _ _ _ _) ?_
  simp only [Bool.not_true, Bool.false_eq_true, if_false]
  obtain ⟨z0, hz0, hm0, q0⟩ := markByteS_ev (decryptFrom a0 0 l1) (1) (by have := hR; omega) (by omega) (by have := hR; omega)
  have e0 := heldByteS_ev z0 (1) _ hz0 (by have := hR; omega) (by omega) (by have := hR; omega) hm0
  refine Ev.bind q0 ?_
  refine Ev.bind e0 ?_
  simp only [if_neg (show ¬ (1 + ((decryptFrom a0 0 l1).length : Int) < 0) by omega), if_true]
  refine Ev.bind (toByteS_ev l1 b_l1) ?_
  refine Ev.bind (implDecrypt_ev a0 l1 b_l1) ?_
  refine Ev.bind (eqByteS_self (decryptFrom a0 0 l1) (by have := hR; omega)) ?_
  simp only [if_true, bne_self_eq_false, Bool.not_true, Bool.false_eq_true, if_false]
  refine Ev.bind e0 ?_
  simp only [if_neg (show ¬ (1 + ((decryptFrom a0 0 l1).length : Int) < 0) by omega), if_true]
  exact Ev.now true

end Go.Proofs.Ytdfjpnpkgigolaa.Pure
