/-
  Goes on where the text before it ends.
  Conditions: none beside the given statement's own.
-/
import Derived.Test.YtojkepidkmkmpaaRows
import Derived.WalkKit
import Derived.ProofKit
import Derived.OpenShut
import Derived.ShutString
import Derived.ChangeOld
import Derived.Below
import Derived.SizedLaws
import Derived.Test.YtojkepidkmkmpaaPROWc
set_option linter.unusedVariables false
set_option linter.unusedSimpArgs false
section
namespace Go.Proofs.YtojkepidkmkmpaaAlg
abbrev V := Nat → Int
inductive Sp (S : V → Prop) : V → Prop
 | of {v : V} : S v → Sp S v
 | zero : Sp S (fun _ => 0)
 | add {u v : V} : Sp S u → Sp S v → Sp S (fun j => u j + v j)
 | smul {u : V} (c : Int) : Sp S u → Sp S (fun j => c * u j)
 | div {u : V} (c : Int) : c ≠ 0 → Sp S (fun j => c * u j) → Sp S u
theorem Sp.congr {S : V → Prop} {u v : V} (h : Sp S u) (e : ∀ j, u j = v j) : Sp S v := by
 have : u = v := funext e
 rwa [← this]
theorem Sp.trans {S T : V → Prop} {v : V} (h : Sp S v) (k : ∀ v, S v → Sp T v) : Sp T v := by
 induction h with
 | of h => exact k _ h
 | zero => exact Sp.zero
 | add _ _ h1 h2 => exact Sp.add h1 h2
 | smul c _ h => exact Sp.smul c h
 | div c hc _ h => exact Sp.div c hc h
theorem Sp.mono {S T : V → Prop} {v : V} (h : Sp S v) (k : ∀ v, S v → T v) : Sp T v := h.trans fun v hv => Sp.of (k v hv)
theorem Sp.comb {S : V → Prop} {u v : V} (a b : Int) (h : Sp S u) (k : Sp S v) : Sp S (fun j => a * u j + b * v j) := Sp.add (Sp.smul a h) (Sp.smul b k)
theorem Sp.sub {S : V → Prop} {u v : V} (a b : Int) (h : Sp S u) (k : Sp S v) : Sp S (fun j => a * u j - b * v j) :=
 (Sp.comb a (-b) h k).congr fun j => by rw [Int.neg_mul, ← Int.sub_eq_add_neg]
theorem Sp.kill {S : V → Prop} {v : V} (h : Sp S v) (φ : V → Int) (h0 : φ (fun _ => 0) = 0) (ha : ∀ u v, φ (fun j => u j + v j) = φ u + φ v)
  (hm : ∀ c u, φ (fun j => c * u j) = c * φ u) (hS : ∀ v, S v → φ v = 0) : φ v = 0 := by
 induction h with
 | of h => exact hS _ h
 | zero => exact h0
 | add _ _ h1 h2 => rw [ha, h1, h2]; rfl
 | smul c _ h => rw [hm, h, Int.mul_zero]
 | div c hc _ h =>
  rw [hm] at h
  exact (Int.mul_eq_zero.1 h).resolve_left hc
theorem Sp.split {T : V → Prop} {o v : V} (h : Sp (fun u => u = o ∨ T u) v) : ∃ a b : Int, a ≠ 0 ∧ Sp T (fun j => a * v j - b * o j) := by
 induction h with
|of h =>
  rcases h with rfl|h
  ·exact ⟨1, 1, by decide, Sp.zero.congr fun j => by simp⟩
  ·exact ⟨1, 0, by decide, (Sp.of h).congr fun j => by omega⟩
|zero => exact ⟨1, 0, by decide, Sp.zero.congr fun j => by simp⟩
|add _ _ h1 h2 =>
  obtain ⟨a1, b1, ha1, h1⟩ := h1
  obtain ⟨a2, b2, ha2, h2⟩ := h2
  refine ⟨a1 * a2, a2 * b1 + a1 * b2, Int.mul_ne_zero ha1 ha2, (Sp.comb a2 a1 h1 h2).congr fun j => ?_⟩
  simp only [Int.mul_sub, Int.mul_add, Int.add_mul, Int.mul_assoc, Int.mul_left_comm a2 a1]
  omega
|smul c _ h =>
  obtain ⟨a, b, ha, h⟩ := h
  refine ⟨a, c * b, ha, (Sp.smul c h).congr fun j => ?_⟩
  simp only [Int.mul_sub, Int.mul_assoc, Int.mul_left_comm]
|div c hc _ h =>
  obtain ⟨a, b, ha, h⟩ := h
  refine ⟨a * c, b, Int.mul_ne_zero ha hc, h.congr fun j => ?_⟩
  simp only [Int.mul_assoc]
def E (c : Nat) (F : List V → Int) : List V → Int
 | [] => 0
 | R :: Rs => R c * F Rs - E c (fun X => F (R :: X)) Rs
def det : List Nat → List V → Int
 | [], _ => 1
 | c :: cs, Rs => E c (det cs) Rs
theorem E_lin (c : Nat) (k l : Int) : ∀ (Rs : List V) (F G : List V → Int), E c (fun X => k * F X - l * G X) Rs = k * E c F Rs - l * E c G Rs
 | [], F, G => by simp [E]
 | R :: Rs, F, G => by
  simp only [E]
  rw [E_lin c k l Rs (fun X => F (R :: X)) (fun X => G (R :: X))]
  simp only [Int.mul_sub, Int.mul_left_comm (R c)]
  omega
theorem E_smul (c : Nat) (k : Int) (Rs : List V) (F : List V → Int) : E c (fun X => k * F X) Rs = k * E c F Rs := by
 have := E_lin c k 0 Rs F F
 simpa using this
theorem E_zero (c : Nat) (Rs : List V) : E c (fun _ => 0) Rs = 0 := by
 have := E_smul c 0 Rs (fun _ => 0)
 simpa using this
theorem E_swap (a b : Nat) : ∀ (Rs : List V) (F : List V → Int), E a (fun X => E b F X) Rs = - E b (fun X => E a F X) Rs
 | [], F => by simp [E]
 | R :: Rs, F => by
  have h1 : E a (fun X => E b F (R :: X)) Rs = R b * E a F Rs - E a (fun X => E b (fun Y => F (R :: Y)) X) Rs := by
   have := E_lin a (R b) 1 Rs F (fun X => E b (fun Y => F (R :: Y)) X)
   simpa [E] using this
  have h2 : E b (fun X => E a F (R :: X)) Rs = R a * E b F Rs - E b (fun X => E a (fun Y => F (R :: Y)) X) Rs := by
   have := E_lin b (R a) 1 Rs F (fun X => E a (fun Y => F (R :: Y)) X)
   simpa [E] using this
  have h3 := E_swap a b Rs (fun Y => F (R :: Y))
  show R a * E b F Rs - E a (fun X => E b F (R :: X)) Rs = -(R b * E a F Rs - E b (fun X => E a F (R :: X)) Rs)
  rw [h1, h2, h3]
  omega
theorem det_dup (cs : List Nat) : ∀ (c : Nat), c ∈ cs → ∀ Rs, det (c :: cs) Rs = 0 := by
 induction cs with
 | nil => intro c h; simp at h
 | cons d cs ih =>
  intro c h Rs
  have hs : det (c :: d :: cs) Rs = - E d (fun X => det (c :: cs) X) Rs := E_swap c d Rs (det cs)
  by_cases e : c = d
  ·subst e
   have : det (c :: c :: cs) Rs = E c (fun X => det (c :: cs) X) Rs := rfl
   omega
  ·have hm : c ∈ cs := by simpa [e] using h
   rw [hs]
   have : (fun X => det (c :: cs) X) = fun _ => 0 := funext (ih c hm)
   rw [this, E_zero]
   rfl
theorem det_erase (cs : List Nat) : ∀ (c : Nat), c ∈ cs → ∃ ε : Int, (ε = 1 ∨ ε = -1) ∧ ∀ Rs, det (c :: cs.erase c) Rs = ε * det cs Rs := by
 induction cs with
|nil => intro c h;simp at h
|cons d cs ih =>
  intro c h
  by_cases e : c = d
  ·subst e
   exact ⟨1, .inl rfl, fun Rs => by simp⟩
  ·have hm : c ∈ cs := by simpa [e] using h
   obtain ⟨ε, he, h⟩ := ih c hm
   refine ⟨-ε, by omega, fun Rs => ?_⟩
   have e1 : (d :: cs).erase c = d :: cs.erase c := by
    rw [List.erase_cons_tail]
    simpa using fun e' => e e'.symm
   rw [e1]
   have hs : det (c :: d :: cs.erase c) Rs = - E d (fun X => det (c :: cs.erase c) X) Rs := E_swap c d Rs (det (cs.erase c))
   rw [hs]
   have : (fun X => det (c :: cs.erase c) X) = fun X => ε * det cs X := funext h
   rw [this, E_smul]
   show -(ε * det (d :: cs) Rs) = _
   rw [Int.neg_mul]
theorem E_mem (F : List V → Int) : ∀ (Rs : List V), Sp (· ∈ Rs) (fun j => E j F Rs) := by
 intro Rs
 induction Rs generalizing F with
 | nil => exact Sp.zero
 | cons R Rs ih =>
  have h1 : Sp (· ∈ R :: Rs) R := Sp.of (by simp)
  have h2 : Sp (· ∈ R :: Rs) (fun j => E j (fun X => F (R :: X)) Rs) := (ih _).mono fun v hv => by simp [hv]
  exact (Sp.sub (F Rs) 1 h1 h2).congr fun j => by simp only [E, Int.one_mul, Int.mul_comm]
theorem det_head (cs : List Nat) (o : V) (Rs : List V) : Sp (· ∈ Rs) (fun j => det (j :: cs) (o :: Rs) - det cs Rs * o j) := by
 have h := E_mem (fun X => det cs (o :: X)) Rs
 refine (Sp.smul (-1) h).congr fun j => ?_
 simp only [det, E]
 rw [Int.mul_comm (o j)]
 omega
def fct : Nat → Nat
 | 0 => 1
 | n + 1 => (n + 1) * fct n
def prod (b : Nat → Nat) : List Nat → Nat
 | [] => 1
 | c :: cs => b c * prod b cs
theorem E_bound (c : Nat) (B N : Nat) : ∀ (Rs : List V) (F : List V → Int), (∀ R ∈ Rs, (R c).natAbs ≤ B) →
  (∀ X : List V, X.length + 1 = Rs.length → (∀ R ∈ X, R ∈ Rs) → (F X).natAbs ≤ N) → (E c F Rs).natAbs ≤ Rs.length * (B * N)
 | [], F, _, _ => by simp [E]
 | R :: Rs, F, hR, hF => by
  have h1 : (R c).natAbs ≤ B := hR R (by simp)
  have h2 : (F Rs).natAbs ≤ N := hF Rs (by simp) fun x hx => by simp [hx]
  have h3 := E_bound c B N Rs (fun X => F (R :: X)) (fun x hx => hR x (by simp [hx])) fun X hX hm => hF (R :: X) (by simp [hX]) fun x hx => by
   rcases List.mem_cons.1 hx with rfl | hx
   ·simp
   ·simp [hm x hx]
  have h4 : (R c * F Rs).natAbs ≤ B * N := by rw [Int.natAbs_mul]; exact Nat.mul_le_mul h1 h2
  simp only [E, List.length_cons, Nat.add_mul, Nat.one_mul]
  omega
theorem det_bound (b : Nat → Nat) : ∀ (cs : List Nat) (Rs : List V), (∀ R ∈ Rs, ∀ c ∈ cs, (R c).natAbs ≤ b c) → Rs.length = cs.length →
  (det cs Rs).natAbs ≤ fct cs.length * prod b cs
 | [], Rs, _, _ => by simp [det, fct, prod]
 | c :: cs, Rs, hb, hl => by
  have := E_bound c (b c) (fct cs.length * prod b cs) Rs (det cs) (fun R hR => hb R hR c (by simp)) fun X hX hm =>
   det_bound b cs X (fun R hR d hd => hb R (hm R hR) d (by simp [hd])) (by simp at hl; omega)
  have e : Rs.length * (b c * (fct cs.length * prod b cs)) = fct (c :: cs).length * prod b (c :: cs) := by
   rw [hl]
   simp only [List.length_cons, fct, prod, Nat.mul_assoc, Nat.mul_left_comm]
  rw [← e]
  exact this
end Go.Proofs.YtojkepidkmkmpaaAlg
namespace Go.Proofs.YtojkepidkmkmpaaAlg
def at0 (l : List Int) : V := fun j => l.getD j 0
def sumOver {α : Type} (f : α → Int) : List α → Int
 | [] => 0
 | a :: l => f a + sumOver f l
theorem sumOver_add {α : Type} (f g : α → Int) : ∀ l, sumOver (fun a => f a + g a) l = sumOver f l + sumOver g l
 | [] => rfl
 | a :: l => by simp only [sumOver]; rw [sumOver_add f g l]; omega
theorem sumOver_mul {α : Type} (c : Int) (f : α → Int) : ∀ l, sumOver (fun a => c * f a) l = c * sumOver f l
 | [] => by simp [sumOver]
 | a :: l => by simp only [sumOver]; rw [sumOver_mul c f l, Int.mul_add]
theorem sumOver_zero {α : Type} (f : α → Int) : ∀ l : List α, (∀ a ∈ l, f a = 0) → sumOver f l = 0
 | [], _ => rfl
 | a :: l, h => by simp only [sumOver]; rw [h a (by simp), sumOver_zero f l fun x hx => h x (by simp [hx])]; rfl
theorem sumOver_congr {α : Type} (f g : α → Int) : ∀ l : List α, (∀ a ∈ l, f a = g a) → sumOver f l = sumOver g l
 | [], _ => rfl
 | a :: l, h => by simp only [sumOver]; rw [h a (by simp), sumOver_congr f g l fun x hx => h x (by simp [hx])]
def Piv (P : List (List Int × Nat)) : Prop := (P.map (·.2)).Nodup ∧ (∀ p ∈ P, at0 p.1 p.2 ≠ 0) ∧ ∀ p ∈ P, ∀ q ∈ P, p.2 ≠ q.2 → at0 p.1 q.2 = 0
theorem sumOver_one (P : List (List Int × Nat)) (f : List Int × Nat → Int) (q : List Int × Nat) (hn : (P.map (·.2)).Nodup) (hq : q ∈ P) (h0 : ∀ p ∈ P, p.2 ≠ q.2 → f p = 0) : sumOver f P = f q := by
 induction P with
 | nil => simp at hq
 | cons p P ih =>
  simp only [List.map_cons, List.nodup_cons] at hn
  simp only [sumOver]
  by_cases e : p = q
  ·subst e
   rw [sumOver_zero f P fun a ha => h0 a (by simp [ha]) fun e => hn.1 (by rw [← e]; exact List.mem_map_of_mem ha)]
   omega
  ·have hm : q ∈ P := by simpa [Ne.symm e] using hq
   rw [h0 p (by simp) fun e' => hn.1 (by rw [e']; exact List.mem_map_of_mem hm), ih hn.2 hm fun a ha => h0 a (by simp [ha])]
   omega
def res (L : Int) (P : List (List Int × Nat)) (v : V) : V := fun j => L * v j - sumOver (fun p => L / at0 p.1 p.2 * v p.2 * at0 p.1 j) P
theorem res_zero (L : Int) (P : List (List Int × Nat)) (j : Nat) : res L P (fun _ => 0) j = 0 := by
 unfold res
 rw [sumOver_zero _ _ fun p _ => by simp]
 simp
theorem res_add (L : Int) (P : List (List Int × Nat)) (u v : V) (j : Nat) : res L P (fun j => u j + v j) j = res L P u j + res L P v j := by
 unfold res
 have := sumOver_add (fun p : List Int × Nat => L / at0 p.1 p.2 * u p.2 * at0 p.1 j) (fun p => L / at0 p.1 p.2 * v p.2 * at0 p.1 j) P
 have e : sumOver (fun p : List Int × Nat => L / at0 p.1 p.2 * (u p.2 + v p.2) * at0 p.1 j) P = sumOver (fun p => L / at0 p.1 p.2 * u p.2 * at0 p.1 j + L / at0 p.1 p.2 * v p.2 * at0 p.1 j) P :=
  sumOver_congr _ _ _ fun p _ => by simp only [Int.mul_add, Int.add_mul]
 rw [e, this, Int.mul_add]
 omega
theorem res_mul (L : Int) (P : List (List Int × Nat)) (c : Int) (u : V) (j : Nat) : res L P (fun j => c * u j) j = c * res L P u j := by
 unfold res
 have := sumOver_mul c (fun p : List Int × Nat => L / at0 p.1 p.2 * u p.2 * at0 p.1 j) P
 have e : sumOver (fun p : List Int × Nat => L / at0 p.1 p.2 * (c * u p.2) * at0 p.1 j) P = sumOver (fun p => c * (L / at0 p.1 p.2 * u p.2 * at0 p.1 j)) P :=
  sumOver_congr _ _ _ fun p _ => by simp only [Int.mul_assoc, Int.mul_left_comm]
 rw [e, this, Int.mul_sub, Int.mul_left_comm]
theorem res_span {P : List (List Int × Nat)} (hP : Piv P) (L : Int) (hL : ∀ p ∈ P, at0 p.1 p.2 ∣ L) {v : V} (h : Sp (fun u => ∃ p ∈ P, at0 p.1 = u) v) (j : Nat) : res L P v j = 0 := by
 refine h.kill (fun v => res L P v j) (res_zero L P j) (fun u v => res_add L P u v j) (fun c u => res_mul L P c u j) fun u hu => ?_
 obtain ⟨q, hq, rfl⟩ := hu
 unfold res
 rw [sumOver_one P _ q hP.1 hq fun p hp e => by
  show L / at0 p.1 p.2 * at0 q.1 p.2 * at0 p.1 j = 0
  rw [hP.2.2 q hq p hp (Ne.symm e)]
  simp]
 rw [Int.ediv_mul_cancel (hL q hq)]
 omega
theorem res_piv {P : List (List Int × Nat)} (hP : Piv P) (L : Int) (hL : ∀ p ∈ P, at0 p.1 p.2 ∣ L) (v : V) (q : List Int × Nat) (hq : q ∈ P) : res L P v q.2 = 0 := by
 unfold res
 rw [sumOver_one P _ q hP.1 hq fun p hp e => by
  show L / at0 p.1 p.2 * v p.2 * at0 p.1 q.2 = 0
  rw [hP.2.2 p hp q hq e]
  simp]
 show L * v q.2 - L / at0 q.1 q.2 * v q.2 * at0 q.1 q.2 = 0
 have := Int.ediv_mul_cancel (hL q hq)
 rw [Int.mul_right_comm, this]
 omega
theorem sumOver_mem (S : V → Prop) (P : List (List Int × Nat)) (g : List Int × Nat → Int) (h : ∀ p ∈ P, Sp S (at0 p.1)) : Sp S (fun j => sumOver (fun p => g p * at0 p.1 j) P) := by
 induction P with
 | nil => exact Sp.zero
 | cons p P ih =>
  exact Sp.add (Sp.smul (g p) (h p (by simp))) (ih fun q hq => h q (by simp [hq]))
theorem res_mem {S : V → Prop} {P : List (List Int × Nat)} (L : Int) {v : V} (hv : Sp S v) (h : ∀ p ∈ P, Sp S (at0 p.1)) : Sp S (res L P v) := by
 refine (Sp.sub L 1 hv (sumOver_mem S P (fun p => L / at0 p.1 p.2 * v p.2) h)).congr fun j => ?_
 unfold res
 omega
def common (P : List (List Int × Nat)) : Int := P.foldr (fun p c => at0 p.1 p.2 * c) 1
theorem common_ne {P : List (List Int × Nat)} (h : ∀ p ∈ P, at0 p.1 p.2 ≠ 0) : common P ≠ 0 := by
 induction P with
 | nil => decide
 | cons p P ih => exact Int.mul_ne_zero (h p (by simp)) (ih fun q hq => h q (by simp [hq]))
theorem dvd_common {P : List (List Int × Nat)} : ∀ p ∈ P, at0 p.1 p.2 ∣ common P := by
 induction P with
 | nil => simp
 | cons p P ih =>
  intro q hq
  rcases List.mem_cons.1 hq with rfl | hq
  ·exact Int.dvd_mul_right _ _
  ·exact Int.dvd_trans (ih q hq) (Int.dvd_mul_left _ _)
theorem zero_of_piv {P : List (List Int × Nat)} (hP : Piv P) {v : V} (h : Sp (fun u => ∃ p ∈ P, at0 p.1 = u) v) (h0 : ∀ p ∈ P, v p.2 = 0) (j : Nat) : v j = 0 := by
 have hr := res_span hP (common P) dvd_common h j
 unfold res at hr
 rw [sumOver_zero _ _ fun p hp => by rw [h0 p hp]; simp] at hr
 have : common P * v j = 0 := by omega
 exact (Int.mul_eq_zero.1 this).resolve_left (common_ne hP.2.1)
theorem prop_of_piv {P : List (List Int × Nat)} (hP : Piv P) {u v : V} (hu : Sp (fun u => ∃ p ∈ P, at0 p.1 = u) u) (hv : Sp (fun u => ∃ p ∈ P, at0 p.1 = u) v)
  (q : List Int × Nat) (h0 : ∀ p ∈ P, p.2 ≠ q.2 → u p.2 = 0 ∧ v p.2 = 0) (j : Nat) : v q.2 * u j = u q.2 * v j := by
 have := zero_of_piv hP (Sp.sub (v q.2) (u q.2) hu hv) (fun p hp => by
  by_cases e : p.2 = q.2
  ·rw [e, Int.mul_comm]; omega
  ·rw [(h0 p hp e).1, (h0 p hp e).2]; simp) j
 omega
def Prim (v : V) : Prop := ∀ d : Int, (∀ j, d ∣ v j) → d ∣ 1
theorem Prim.dvd {v : V} (h : Prim v) (a b : Int) (hb : b ≠ 0) (hd : ∀ j, b ∣ a * v j) : b ∣ a := by
 have hg : (Int.gcd b a : Int) ≠ 0 := by
  intro e
  have := Int.gcd_eq_zero_iff.1 (by omega : Int.gcd b a = 0)
  exact hb this.1
 obtain ⟨b', hb'⟩ := Int.gcd_dvd_left b a
 have h1 : b' ∣ 1 := h b' fun j => by
  have h2 : b ∣ v j * Int.gcd b a := Int.dvd_mul_gcd_iff_dvd_mul.2 (by rw [Int.mul_comm];exact hd j)
  obtain ⟨c, hc⟩ := h2
  refine ⟨c, ?_⟩
  have h3 : (Int.gcd b a : Int) * v j = (Int.gcd b a : Int) * (b' * c) := by
   rw [← Int.mul_assoc, ← hb', ← hc, Int.mul_comm]
  exact Int.eq_of_mul_eq_mul_left hg h3
 obtain ⟨c, hc⟩ := h1
 have h4 : (Int.gcd b a : Int) = b * c := by
  rw [hb', Int.mul_assoc, ← hc, Int.mul_one]
  exact congrArg _ (by rw [← hb'])
 exact Int.dvd_trans ⟨c, h4⟩ (Int.gcd_dvd_right b a)
theorem Prim.of_prop {v w : V} (h : Prim v) (a b : Int) (hb : b ≠ 0) (e : ∀ j, a * v j = b * w j) : ∃ c, (∀ j, w j = c * v j) ∧ a = b * c := by
 obtain ⟨c, hc⟩ := h.dvd a b hb fun j => ⟨w j, e j⟩
 refine ⟨c, fun j => ?_, hc⟩
 have := e j
 rw [hc, Int.mul_assoc] at this
 exact (Int.eq_of_mul_eq_mul_left hb this).symm
theorem Prim.bound {v w : V} (h : Prim v) (a b : Int) (ha : a ≠ 0) (hb : b ≠ 0) (e : ∀ j, a * v j = b * w j) (j : Nat) : (v j).natAbs ≤ (w j).natAbs := by
 obtain ⟨c, hc, hac⟩ := h.of_prop a b hb e
 have h0 : c ≠ 0 := fun h => ha (by rw [hac, h, Int.mul_zero])
 rw [hc j, Int.natAbs_mul]
 exact Nat.le_mul_of_pos_left _ (Int.natAbs_pos.2 h0)
end Go.Proofs.YtojkepidkmkmpaaAlg
namespace Go.Proofs.YtojkepidkmkmpaaAlg
def PS (P : List (List Int × Nat)) : V → Prop := fun u => ∃ p ∈ P, at0 p.1 = u
structure St (S : V → Prop) (P : List (List Int × Nat)) (Q : List (List Int)) : Prop where
 piv : Piv P
 rest0 : ∀ q ∈ Q, ∀ p ∈ P, at0 q p.2 = 0
 inP : ∀ p ∈ P, Sp S (at0 p.1)
 inQ : ∀ q ∈ Q, Sp S (at0 q)
 all : ∀ v, S v → Sp (fun u => PS P u ∨ ∃ q ∈ Q, at0 q = u) v
 orig : ∃ Os : List V, (∀ o ∈ Os, S o ∧ Sp (PS P) o) ∧ Os.length = P.length ∧ det (P.map (·.2)) Os ≠ 0
 from_ : ∀ q ∈ Q, ∃ o, S o ∧ Sp (fun u => u = o ∨ PS P u) (at0 q)
theorem St.start (Q : List (List Int)) (S : V → Prop) (h1 : ∀ q ∈ Q, ∃ o, S o ∧ ∃ g, g ≠ 0 ∧ ∀ j, g * at0 q j = o j) (h2 : ∀ v, S v → ∃ q ∈ Q, ∃ g, g ≠ 0 ∧ ∀ j, g * at0 q j = v j) : St S [] Q where
 piv := ⟨by simp, by simp, by simp⟩
 rest0 := by simp
 inP := by simp
 inQ := fun q hq => by
  obtain ⟨o, ho, g, hg, e⟩ := h1 q hq
  exact Sp.div g hg ((Sp.of ho).congr fun j => (e j).symm)
 all := fun v hv => by
  obtain ⟨q, hq, g, hg, e⟩ := h2 v hv
  exact (Sp.smul g (Sp.of (.inr ⟨q, hq, rfl⟩))).congr e
 orig := ⟨[], by simp, rfl, by simp [det]⟩
 from_ := fun q hq => by
  obtain ⟨o, ho, g, hg, e⟩ := h1 q hq
  exact ⟨o, ho, Sp.div g hg ((Sp.of (.inl rfl)).congr fun j => (e j).symm)⟩
theorem St.rest {S : V → Prop} {P : List (List Int × Nat)} {Q Q' : List (List Int)} (h : St S P Q) (h1 : ∀ q ∈ Q', q ∈ Q) (h2 : ∀ q ∈ Q, q ∈ Q' ∨ ∀ j, at0 q j = 0) : St S P Q' where
 piv := h.piv
 rest0 := fun q hq => h.rest0 q (h1 q hq)
 inP := h.inP
 inQ := fun q hq => h.inQ q (h1 q hq)
 all := fun v hv => (h.all v hv).trans fun u hu => by
  rcases hu with hu | ⟨q, hq, rfl⟩
  ·exact Sp.of (.inl hu)
  ·rcases h2 q hq with hq' | h0
   ·exact Sp.of (.inr ⟨q, hq', rfl⟩)
   ·exact Sp.zero.congr fun j => (h0 j).symm
 orig := h.orig
 from_ := fun q hq => h.from_ q (h1 q hq)
theorem at0_prop {S : V → Prop} {P : List (List Int × Nat)} {Q : List (List Int)} (h : St S P Q) (Os : List V) (hO : ∀ o ∈ Os, S o ∧ Sp (PS P) o) (_hl : Os.length = P.length) (hD : det (P.map (·.2)) Os ≠ 0)
  (q : List Int) (hq : q ∈ Q) (hn : ∃ j, at0 q j ≠ 0) : ∃ (o : V) (a b : Int), S o ∧ a ≠ 0 ∧ b ≠ 0 ∧ Sp (PS P) (fun j => a * at0 q j - b * o j) ∧ ∀ j, det (P.map (·.2)) Os * a * at0 q j = b * det (j :: P.map (·.2)) (o :: Os) := by
 obtain ⟨o, ho, hs⟩ := h.from_ q hq
 obtain ⟨a, b, ha, hab⟩ := hs.split
 have hhead : Sp (PS P) (fun j => det (j :: P.map (·.2)) (o :: Os) - det (P.map (·.2)) Os * o j) := (det_head (P.map (·.2)) o Os).trans fun v hv => (hO v hv).2
 have hz : ∀ j, det (P.map (·.2)) Os * a * at0 q j = b * det (j :: P.map (·.2)) (o :: Os) := by
  have hs : Sp (PS P) (fun j => det (P.map (·.2)) Os * a * at0 q j - b * det (j :: P.map (·.2)) (o :: Os)) := by
   refine (Sp.sub (det (P.map (·.2)) Os) b hab hhead).congr fun j => ?_
   simp only [Int.mul_sub, Int.mul_assoc, Int.mul_left_comm b]
   omega
  intro j
  have := zero_of_piv h.piv hs (fun p hp => by
   show det (P.map (·.2)) Os * a * at0 q p.2 - b * det (p.2 :: P.map (·.2)) (o :: Os) = 0
   rw [h.rest0 q hq p hp, det_dup _ p.2 (List.mem_map_of_mem hp)]
   simp) j
  omega
 refine ⟨o, a, b, ho, ha, ?_, hab, hz⟩
 rintro rfl
 obtain ⟨j, hj⟩ := hn
 have := hz j
 rw [Int.zero_mul] at this
 rcases Int.mul_eq_zero.1 this with h|h
 ·exact Int.mul_ne_zero hD ha h
 ·exact hj h
theorem St.step {S : V → Prop} {P : List (List Int × Nat)} {Q Q' : List (List Int)} (h : St S P Q) (q : List Int) (k : Nat) (hk : at0 q k ≠ 0) (hq : q ∈ Q)
  (hQ : ∀ x ∈ Q, x = q ∨ x ∈ Q') (hQ' : ∀ x ∈ Q', x ∈ Q) (f : List Int → List Int)
  (hf : ∀ r, ((∃ p ∈ P, p.1 = r) ∨ r ∈ Q') → ∃ g α β : Int, g ≠ 0 ∧ α ≠ 0 ∧ (∀ j, g * at0 (f r) j = α * at0 r j - β * at0 q j) ∧ at0 (f r) k = 0) :
  St S ((q, k) :: P.map fun p => (f p.1, p.2)) (Q'.map f) := by
 have hcol : ((P.map fun p => (f p.1, p.2)).map (·.2)) = P.map (·.2) := by rw [List.map_map];rfl
 have hknot : k ∉ P.map (·.2) := fun hm => by
  replace hm := List.mem_map.1 hm
  obtain ⟨p, hp, rfl⟩ := hm
  exact hk (h.rest0 q hq p hp)
 have hfp : ∀ p ∈ P, ∃ g α β : Int, g ≠ 0 ∧ α ≠ 0 ∧ (∀ j, g * at0 (f p.1) j = α * at0 p.1 j - β * at0 q j) ∧ at0 (f p.1) k = 0 := fun p hp => hf p.1 (.inl ⟨p, hp, rfl⟩)
 have hfq : ∀ r ∈ Q', ∃ g α β : Int, g ≠ 0 ∧ α ≠ 0 ∧ (∀ j, g * at0 (f r) j = α * at0 r j - β * at0 q j) ∧ at0 (f r) k = 0 := fun r hr => hf r (.inr hr)
 have hqin : Sp (PS ((q, k) :: P.map fun p => (f p.1, p.2))) (at0 q) := Sp.of ⟨(q, k), by simp, rfl⟩
 have hold : ∀ v, PS P v → Sp (PS ((q, k) :: P.map fun p => (f p.1, p.2))) v := by
  rintro v ⟨p, hp, rfl⟩
  obtain ⟨g, α, β, hg, hα, e, _⟩ := hfp p hp
  have h1 : Sp (PS ((q, k) :: P.map fun p => (f p.1, p.2))) (at0 (f p.1)) := Sp.of ⟨(f p.1, p.2), List.mem_cons_of_mem _ (List.mem_map.2 ⟨p, hp, rfl⟩), rfl⟩
  refine Sp.div α hα ((Sp.comb g β h1 hqin).congr fun j => ?_)
  rw [e j]
  omega
 refine ⟨⟨?_, ?_, ?_⟩, ?_, ?_, ?_, ?_, ?_, ?_⟩
 ·simp only [List.map_cons, List.nodup_cons, hcol]
  exact ⟨hknot, h.piv.1⟩
 ·intro p hp
  replace hp := List.mem_cons.1 hp
  rcases hp with rfl|hp
  ·exact hk
  ·replace hp := List.mem_map.1 hp
   obtain ⟨p, hp, rfl⟩ := hp
   obtain ⟨g, α, β, hg, hα, e, _⟩ := hfp p hp
   intro h0
   have h1 := e p.2
   have h0' : at0 (f p.1) p.2 = 0 := h0
   rw [h0', h.rest0 q hq p hp] at h1
   have h2 := Int.mul_ne_zero hα (h.piv.2.1 p hp)
   omega
 ·intro p hp p' hp' hne
  replace hp := List.mem_cons.1 hp
  rcases hp with rfl|hp
  ·replace hp' := List.mem_cons.1 hp'
   rcases hp' with rfl|hp'
   ·exact absurd rfl hne
   ·replace hp' := List.mem_map.1 hp'
    obtain ⟨p', hp', rfl⟩ := hp'
    exact h.rest0 q hq p' hp'
  ·replace hp := List.mem_map.1 hp
   obtain ⟨p, hp, rfl⟩ := hp
   obtain ⟨g, α, β, hg, hα, e, h0⟩ := hfp p hp
   replace hp' := List.mem_cons.1 hp'
   rcases hp' with rfl|hp'
   ·exact h0
   ·replace hp' := List.mem_map.1 hp'
    obtain ⟨p', hp', rfl⟩ := hp'
    have h1 := e p'.2
    rw [h.rest0 q hq p' hp', h.piv.2.2 p hp p' hp' hne] at h1
    have : g * at0 (f p.1) p'.2 = 0 := by omega
    exact (Int.mul_eq_zero.1 this).resolve_left hg
 ·intro r hr p hp
  replace hr := List.mem_map.1 hr
  obtain ⟨r, hr, rfl⟩ := hr
  obtain ⟨g, α, β, hg, hα, e, h0⟩ := hfq r hr
  replace hp := List.mem_cons.1 hp
  rcases hp with rfl|hp
  ·exact h0
  ·replace hp := List.mem_map.1 hp
   obtain ⟨p, hp, rfl⟩ := hp
   have h1 := e p.2
   rw [h.rest0 q hq p hp, h.rest0 r (hQ' r hr) p hp] at h1
   have : g * at0 (f r) p.2 = 0 := by omega
   exact (Int.mul_eq_zero.1 this).resolve_left hg
 ·intro p hp
  replace hp := List.mem_cons.1 hp
  rcases hp with rfl|hp
  ·exact h.inQ q hq
  ·replace hp := List.mem_map.1 hp
   obtain ⟨p, hp, rfl⟩ := hp
   obtain ⟨g, α, β, hg, hα, e, h0⟩ := hfp p hp
   exact Sp.div g hg ((Sp.sub α β (h.inP p hp) (h.inQ q hq)).congr fun j => (e j).symm)
 ·intro r hr
  replace hr := List.mem_map.1 hr
  obtain ⟨r, hr, rfl⟩ := hr
  obtain ⟨g, α, β, hg, hα, e, h0⟩ := hfq r hr
  exact Sp.div g hg ((Sp.sub α β (h.inQ r (hQ' r hr)) (h.inQ q hq)).congr fun j => (e j).symm)
 ·intro v hv
  refine (h.all v hv).trans fun u hu => ?_
  rcases hu with hu|⟨r, hr, rfl⟩
  ·exact (hold u hu).mono fun v hv => .inl hv
  ·rcases hQ r hr with rfl|hr'
   ·exact hqin.mono fun v hv => .inl hv
   ·obtain ⟨g, α, β, hg, hα, e, _⟩ := hfq r hr'
    have h1 : Sp (fun u => PS ((q, k) :: P.map fun p => (f p.1, p.2)) u ∨ ∃ x ∈ Q'.map f, at0 x = u) (at0 (f r)) := Sp.of (.inr ⟨f r, List.mem_map_of_mem hr', rfl⟩)
    refine Sp.div α hα ((Sp.comb g β h1 (hqin.mono fun v hv => .inl hv)).congr fun j => ?_)
    rw [e j]
    omega
 ·obtain ⟨Os, hO, hl, hD⟩ := h.orig
  obtain ⟨o, a, b, ho, ha, hb, hab, hz⟩ := at0_prop h Os hO hl hD q hq ⟨k, hk⟩
  refine ⟨o :: Os, fun x hx => ?_, by simp [hl], ?_⟩
  ·replace hx := List.mem_cons.1 hx
   rcases hx with rfl|hx
   ·refine ⟨ho, Sp.div b hb ?_⟩
    have h1 := hab.trans hold
    refine (Sp.sub a 1 hqin h1).congr fun j => ?_
    omega
   ·exact ⟨(hO x hx).1, (hO x hx).2.trans hold⟩
  ·simp only [List.map_cons, hcol]
   intro h0
   have := hz k
   rw [h0, Int.mul_zero] at this
   exact Int.mul_ne_zero (Int.mul_ne_zero hD ha) hk this
 ·intro r hr
  replace hr := List.mem_map.1 hr
  obtain ⟨r, hr, rfl⟩ := hr
  obtain ⟨g, α, β, hg, hα, e, h0⟩ := hfq r hr
  obtain ⟨o, ho, hs⟩ := h.from_ r (hQ' r hr)
  refine ⟨o, ho, Sp.div g hg ?_⟩
  have h1 : Sp (fun u => u = o ∨ PS ((q, k) :: P.map fun p => (f p.1, p.2)) u) (at0 r) := hs.trans fun u hu => by
   rcases hu with rfl|hu
   ·exact Sp.of (.inl rfl)
   ·exact (hold u hu).mono fun v hv => .inr hv
  exact (Sp.sub α β h1 (hqin.mono fun v hv => .inr hv)).congr fun j => (e j).symm
theorem St.bound_piv {S : V → Prop} {P : List (List Int × Nat)} {Q : List (List Int)} (h : St S P Q) (b : Nat → Nat) (hb : ∀ o, S o → ∀ j, (o j).natAbs ≤ b j) (hp : ∀ p ∈ P, Prim (at0 p.1)) :
  ∃ D : Int, D ≠ 0 ∧ D.natAbs ≤ fct P.length * prod b (P.map (·.2)) ∧ ∀ p ∈ P, ∃ c : Int, D = at0 p.1 p.2 * c ∧ ∀ j, (c * at0 p.1 j).natAbs ≤ fct P.length * (b j * prod b ((P.map (·.2)).erase p.2)) := by
 obtain ⟨Os, hO, hl, hD⟩ := h.orig
 refine ⟨det (P.map (·.2)) Os, hD, ?_, fun p hpm => ?_⟩
 ·have := det_bound b (P.map (·.2)) Os (fun R hR c _ => hb R (hO R hR).1 c) (by simp [hl])
  simpa using this
 ·obtain ⟨ε, hε, he⟩ := det_erase (P.map (·.2)) p.2 (List.mem_map_of_mem hpm)
  have hW0 : Sp (PS P) (fun j => det (j :: (P.map (·.2)).erase p.2) Os) := by
   have h0 : Sp (· ∈ Os) (fun j => E j (det ((P.map fun x => x.2).erase p.2)) Os) := E_mem _ Os
   exact h0.trans fun v hv => (hO v hv).2
  have hW : Sp (PS P) (fun j => ε * det (j :: (P.map (·.2)).erase p.2) Os) := Sp.smul ε hW0
  have hpr := prop_of_piv h.piv (v := at0 p.1) hW (Sp.of ⟨p, hpm, rfl⟩) p fun q hq hne => ⟨by
   show ε * det (q.2 :: (P.map (·.2)).erase p.2) Os = 0
   rw [det_dup _ q.2 ((List.mem_erase_of_ne hne).2 (List.mem_map_of_mem hq)), Int.mul_zero], h.piv.2.2 p hpm q hq (Ne.symm hne)⟩
  have hεε : ε * (ε * det (P.map (·.2)) Os) = det (P.map (·.2)) Os := by rcases hε with rfl|rfl <;> omega
  have hpr' : ∀ j, det (P.map (·.2)) Os * at0 p.1 j = at0 p.1 p.2 * (ε * det (j :: (P.map (·.2)).erase p.2) Os) := fun j => by
   have := hpr j
   simp only [he Os, hεε] at this
   exact this.symm
  obtain ⟨c, hc, hDc⟩ := (hp p hpm).of_prop _ _ (h.piv.2.1 p hpm) hpr'
  refine ⟨c, hDc, fun j => ?_⟩
  rw [← hc j, Int.natAbs_mul]
  have h1 := det_bound b (j :: (P.map (·.2)).erase p.2) Os (fun R hR c _ => hb R (hO R hR).1 c) (by
   simp only [List.length_cons, List.length_erase_of_mem (List.mem_map_of_mem (f := (·.2)) hpm), List.length_map, hl]
   have := List.length_pos_of_mem hpm
   omega)
  have h2 : (j :: (P.map (·.2)).erase p.2).length = P.length := by
   simp only [List.length_cons, List.length_erase_of_mem (List.mem_map_of_mem (f := (·.2)) hpm), List.length_map]
   have := List.length_pos_of_mem hpm
   omega
  rw [h2] at h1
  have h3 : ε.natAbs = 1 := by rcases hε with rfl|rfl <;> rfl
  rw [h3, Nat.one_mul]
  exact h1
theorem St.bound_rest {S : V → Prop} {P : List (List Int × Nat)} {Q : List (List Int)} (h : St S P Q) (b : Nat → Nat) (hb : ∀ o, S o → ∀ j, (o j).natAbs ≤ b j) (q : List Int) (hq : q ∈ Q) (hp : (∀ j, at0 q j = 0) ∨ Prim (at0 q)) (j : Nat) :
  (at0 q j).natAbs ≤ fct (P.length + 1) * (b j * prod b (P.map (·.2))) := by
 by_cases hn : ∃ j, at0 q j ≠ 0
 ·obtain ⟨Os, hO, hl, hD⟩ := h.orig
  obtain ⟨o, a, c, ho, ha, hc, _, hz⟩ := at0_prop h Os hO hl hD q hq hn
  have hpr : Prim (at0 q) := hp.resolve_left fun h0 => by
   obtain ⟨j, hj⟩ := hn
   exact hj (h0 j)
  have h1 := hpr.bound _ c (Int.mul_ne_zero hD ha) hc hz j
  have h2 := det_bound b (j :: P.map (·.2)) (o :: Os) (fun R hR d _ => by
   rcases List.mem_cons.1 hR with rfl | hR
   ·exact hb _ ho d
   ·exact hb R (hO R hR).1 d) (by simp [hl])
  simp only [List.length_cons, List.length_map, prod] at h2
  omega
 ·have : at0 q j = 0 := Classical.byContradiction fun hj => hn ⟨j, hj⟩
  rw [this]
  simp
end Go.Proofs.YtojkepidkmkmpaaAlg
namespace Go.Proofs.YtojkepidkmkmpaaAlg
structure Red (S : V → Prop) (c : Nat) (P : List (List Int × Nat)) (Q : List (List Int)) : Prop where
 st : St S P Q
 low : ∀ q ∈ Q, ∀ j, j < c → at0 q j = 0
 ncol : ∀ p ∈ P, p.2 < c
 lead : ∀ p ∈ P, ∀ j, j < p.2 → at0 p.1 j = 0
 pos : ∀ p ∈ P, 0 < at0 p.1 p.2
 prim : ∀ p ∈ P, Prim (at0 p.1)
 tq : ∀ q ∈ Q, (∀ j, at0 q j = 0) ∨ (Prim (at0 q) ∧ ∃ k, 0 < at0 q k ∧ ∀ j, j < k → at0 q j = 0)
 sorted : (P.map (·.2)).Pairwise (· > ·)
theorem Red.piv_of {S : V → Prop} {c : Nat} {P : List (List Int × Nat)} {Q : List (List Int)} (h : Red S c P Q) {k : Nat} (hk : k < c) {v : V} (hv : Sp S v) (h0 : ∀ j, j < k → v j = 0) (h1 : v k ≠ 0) : k ∈ P.map (·.2) := by
 refine Classical.byContradiction fun hn => ?_
 have hP := h.st.piv
 have hr : res (common P) P v k = 0 := by
  refine (hv.trans h.st.all).kill (fun v => res (common P) P v k) (res_zero _ P k) (fun u v => res_add _ P u v k) (fun c u => res_mul _ P c u k) fun u hu => ?_
  rcases hu with hu|⟨q, hq, rfl⟩
  ·exact res_span hP (common P) dvd_common (Sp.of hu) k
  ·unfold res
   rw [sumOver_zero _ _ fun p hp => by rw [h.st.rest0 q hq p hp];simp, h.low q hq k hk]
   simp
 unfold res at hr
 rw [sumOver_zero _ _ fun p hp => by
  rcases Nat.lt_trichotomy p.2 k with hlt|heq|hgt
  ·rw [h0 _ hlt];simp
  ·exact absurd (List.mem_map.2 ⟨p, hp, heq⟩) hn
  ·rw [h.lead p hp k hgt];simp] at hr
 have : common P * v k = 0 := by omega
 rcases Int.mul_eq_zero.1 this with h|h
 ·exact common_ne hP.2.1 h
 ·exact h1 h
theorem Red.mem_iff {S : V → Prop} {c : Nat} {P : List (List Int × Nat)} {Q : List (List Int)} (h : Red S c P Q) (k : Nat) : k ∈ P.map (·.2) ↔ k < c ∧ ∃ v, Sp S v ∧ (∀ j, j < k → v j = 0) ∧ v k ≠ 0 := by
 constructor
 ·intro hm
  obtain ⟨p, hp, rfl⟩ := List.mem_map.1 hm
  exact ⟨h.ncol p hp, at0 p.1, h.st.inP p hp, h.lead p hp, h.st.piv.2.1 p hp⟩
 ·rintro ⟨hk, v, hv, h0, h1⟩
  exact h.piv_of hk hv h0 h1
theorem sorted_eq : ∀ (l l' : List Nat), l.Pairwise (· > ·) → l'.Pairwise (· > ·) → (∀ k, k ∈ l ↔ k ∈ l') → l = l'
 | [], [], _, _, _ => rfl
 | [], b :: l', _, _, h => absurd ((h b).2 (by simp)) (by simp)
 | a :: l, [], _, _, h => absurd ((h a).1 (by simp)) (by simp)
 | a :: l, b :: l', h1, h2, h => by
  have h1' := List.pairwise_cons.1 h1
  have h2' := List.pairwise_cons.1 h2
  have e : a = b := by
   have ha := (h a).1 (by simp)
   have hb := (h b).2 (by simp)
   rcases List.mem_cons.1 ha with e | ha
   ·exact e
   ·rcases List.mem_cons.1 hb with e | hb
    ·exact e.symm
    ·have := h1'.1 b hb
     have := h2'.1 a ha
     omega
  subst e
  rw [sorted_eq l l' h1'.2 h2'.2 fun k => ⟨fun hk => ?_, fun hk => ?_⟩]
  ·rcases List.mem_cons.1 ((h k).1 (by simp [hk])) with e | h
   ·have := h1'.1 k hk; omega
   ·exact h
  ·rcases List.mem_cons.1 ((h k).2 (by simp [hk])) with e | h
   ·have := h2'.1 k hk; omega
   ·exact h
theorem Red.cols {S S' : V → Prop} {c : Nat} {P P' : List (List Int × Nat)} {Q Q' : List (List Int)} (h : Red S c P Q) (h' : Red S' c P' Q') (e : ∀ v, Sp S v ↔ Sp S' v) : P.map (·.2) = P'.map (·.2) :=
 sorted_eq _ _ h.sorted h'.sorted fun k => by
  rw [h.mem_iff, h'.mem_iff]
  constructor
  ·rintro ⟨hk, v, hv, hh⟩
   exact ⟨hk, v, (e v).1 hv, hh⟩
  ·rintro ⟨hk, v, hv, hh⟩
   exact ⟨hk, v, (e v).2 hv, hh⟩
theorem Red.span {S : V → Prop} {c : Nat} {P : List (List Int × Nat)} {Q : List (List Int)} (h : Red S c P Q) (hz : ∀ q ∈ Q, ∀ j, at0 q j = 0) {v : V} (hv : Sp S v) : Sp (PS P) v :=
 (hv.trans h.st.all).trans fun u hu => by
  rcases hu with hu | ⟨q, hq, rfl⟩
  ·exact Sp.of hu
  ·exact Sp.zero.congr fun j => (hz q hq j).symm
theorem at0_out {l : List Int} {j : Nat} (h : l.length ≤ j) : at0 l j = 0 := by
 unfold at0
 rw [List.getD_eq_getElem?_getD, List.getElem?_eq_none h]
 rfl
theorem at0_lt {l : List Int} {j : Nat} (h : j < l.length) : at0 l j = l[j] := by
 unfold at0
 rw [List.getD_eq_getElem?_getD, List.getElem?_eq_getElem h]
 rfl
def gcdl (l : List Int) : Nat := l.foldl (fun g x => Nat.gcd g x.natAbs) 0
theorem foldl_gcd : ∀ (l : List Int) (g : Nat), l.foldl (fun g x => Nat.gcd g x.natAbs) g = Nat.gcd g (gcdl l)
 | [], g => by simp [gcdl]
 | x :: l, g => by
  unfold gcdl
  simp only [List.foldl_cons]
  rw [foldl_gcd l, foldl_gcd l, Nat.gcd_zero_left, Nat.gcd_assoc]
theorem gcdl_cons (x : Int) (l : List Int) : gcdl (x :: l) = Nat.gcd x.natAbs (gcdl l) := by
 show List.foldl _ (Nat.gcd 0 x.natAbs) l = _
 rw [foldl_gcd, Nat.gcd_zero_left]
theorem gcdl_dvd : ∀ (l : List Int) (j : Nat), (gcdl l : Int) ∣ at0 l j
 | [], j => by simp [at0]
 | x :: l, 0 => by
  rw [gcdl_cons]
  exact Int.ofNat_dvd_left.2 (Nat.gcd_dvd_left _ _)
 | x :: l, j + 1 => by
  rw [gcdl_cons]
  have := gcdl_dvd l j
  exact Int.dvd_trans (Int.natCast_dvd_natCast.2 (Nat.gcd_dvd_right _ _)) this
theorem dvd_gcdl : ∀ (l : List Int) (d : Int), (∀ j, d ∣ at0 l j) → d.natAbs ∣ gcdl l
|[], d, _ => by simp [gcdl]
|x :: l, d, h => by
  rw [gcdl_cons]
  refine Nat.dvd_gcd (Int.natAbs_dvd_natAbs.2 (h 0)) (dvd_gcdl l d fun j => h (j + 1))
theorem gcdl_zero (l : List Int) (h : gcdl l = 0) (j : Nat) : at0 l j = 0 := by
 have := gcdl_dvd l j
 rw [h] at this
 simpa using this
def ld (l : List Int) : Nat := l.findIdx (fun x => x != 0)
theorem ld_le (l : List Int) : ld l ≤ l.length := List.findIdx_le_length
theorem ld_low (l : List Int) (j : Nat) (h : j < ld l) : at0 l j = 0 := by
 have hl := ld_le l
 have := List.not_of_lt_findIdx h
 rw [at0_lt (by omega)]
 simpa using this
theorem ld_ne (l : List Int) (h : ld l < l.length) : at0 l (ld l) ≠ 0 := by
 have := List.findIdx_getElem (w := h)
 rw [at0_lt h]
 have h2 : (l[ld l] != 0) = true := this
 simpa using h2
theorem ld_eq (l : List Int) (k : Nat) (h0 : ∀ j, j < k → at0 l j = 0) (h1 : at0 l k ≠ 0) : ld l = k := by
 have hk : k < l.length := Nat.lt_of_not_le fun h => h1 (at0_out h)
 rcases Nat.lt_trichotomy (ld l) k with h | h | h
 ·exact absurd (h0 _ h) (ld_ne l (by omega))
 ·exact h
 ·exact absurd (ld_low l k h) h1
theorem zero_of_ld (l : List Int) (h : ld l = l.length) (j : Nat) : at0 l j = 0 := by
 rcases Nat.lt_or_ge j l.length with h1 | h1
 ·exact ld_low l j (by omega)
 ·exact at0_out h1
def sg (l : List Int) : Int := if at0 l (ld l) < 0 then -(gcdl l : Int) else gcdl l
def tid (l : List Int) : List Int := if gcdl l = 0 then l else l.map fun x => x / sg l
theorem tid_len (l : List Int) : (tid l).length = l.length := by
 unfold tid
 split <;> simp
theorem sg_abs (l : List Int) : (sg l).natAbs = gcdl l := by
 unfold sg
 split <;> simp
theorem sg_dvd (l : List Int) (j : Nat) : sg l ∣ at0 l j := by
 have := gcdl_dvd l j
 unfold sg
 split
 ·exact Int.neg_dvd.2 this
 ·exact this
theorem at0_map (l : List Int) (f : Int → Int) (h : f 0 = 0) (j : Nat) : at0 (l.map f) j = f (at0 l j) := by
 unfold at0
 rw [List.getD_eq_getElem?_getD, List.getD_eq_getElem?_getD, List.getElem?_map]
 cases l[j]? with
 | none => exact h.symm
 | some x => rfl
theorem tid_mul (l : List Int) (h : gcdl l ≠ 0) (j : Nat) : sg l * at0 (tid l) j = at0 l j := by
 unfold tid
 rw [if_neg h, at0_map _ _ (by simp)]
 exact Int.mul_ediv_cancel' (sg_dvd l j)
theorem sg_ne (l : List Int) (h : gcdl l ≠ 0) : sg l ≠ 0 := fun e => h (by rw [← sg_abs, e]; rfl)
theorem tid_prim (l : List Int) (h : gcdl l ≠ 0) : Prim (at0 (tid l)) := by
 intro d hd
 have h1 : (sg l * d).natAbs ∣ gcdl l := dvd_gcdl l _ fun j => by
  rw [← tid_mul l h j]
  exact Int.mul_dvd_mul_left _ (hd j)
 rw [Int.natAbs_mul, sg_abs] at h1
 have h2 : d.natAbs ∣ 1 := Nat.dvd_of_mul_dvd_mul_left (Nat.pos_of_ne_zero h) (by simpa using h1)
 exact Int.natAbs_dvd_natAbs.1 h2
theorem ld_lt (l : List Int) (h : gcdl l ≠ 0) : ld l < l.length := by
 have hl := ld_le l
 refine Nat.lt_of_not_le fun hge => h ?_
 have : (0 : Int).natAbs ∣ gcdl l := dvd_gcdl l 0 fun j => by rw [zero_of_ld l (by omega) j];exact Int.dvd_refl 0
 simpa using this
theorem tid_pos (l : List Int) (h : gcdl l ≠ 0) : 0 < at0 (tid l) (ld l) := by
 have h1 := tid_mul l h (ld l)
 have h2 := ld_ne l (ld_lt l h)
 have h3 : 0 < gcdl l := Nat.pos_of_ne_zero h
 have h4 : sg l = if at0 l (ld l) < 0 then -(gcdl l : Int) else gcdl l := rfl
 split at h4
 ·have h5 : 0 < -sg l := by omega
  refine Int.pos_of_mul_pos_right (a := -sg l) ?_ (by omega)
  rw [Int.neg_mul]
  omega
 ·have h5 : 0 < sg l := by omega
  refine Int.pos_of_mul_pos_right (a := sg l) ?_ (by omega)
  omega
theorem tid_low (l : List Int) (j : Nat) (h : j < ld l) : at0 (tid l) j = 0 := by
 have h1 := ld_low l j h
 by_cases hg : gcdl l = 0
 ·unfold tid
  rw [if_pos hg, h1]
 ·have := tid_mul l hg j
  rw [h1] at this
  exact (Int.mul_eq_zero.1 this).resolve_left (sg_ne l hg)
theorem tid_tq (l : List Int) : (∀ j, at0 (tid l) j = 0) ∨ (Prim (at0 (tid l)) ∧ ∃ k, 0 < at0 (tid l) k ∧ ∀ j, j < k → at0 (tid l) j = 0) := by
 by_cases h : gcdl l = 0
 ·left
  unfold tid
  rw [if_pos h]
  exact gcdl_zero l h
 ·exact .inr ⟨tid_prim l h, ld l, tid_pos l h, fun j hj => tid_low l j hj⟩
theorem tid_fac (l : List Int) : ∃ g, g ≠ 0 ∧ ∀ j, g * at0 (tid l) j = at0 l j := by
 by_cases h : gcdl l = 0
 ·refine ⟨1, by decide, fun j => ?_⟩
  unfold tid
  rw [if_pos h, Int.one_mul]
 ·exact ⟨sg l, sg_ne l h, tid_mul l h⟩
def comb (r q : List Int) (k : Nat) : List Int := List.zipWith (fun x y => x * at0 q k - y * at0 r k) r q
theorem comb_len (r q : List Int) (k : Nat) (h : r.length = q.length) : (comb r q k).length = r.length := by
 unfold comb
 rw [List.length_zipWith]
 omega
theorem comb_at (r q : List Int) (k : Nat) (h : r.length = q.length) (j : Nat) : at0 (comb r q k) j = at0 r j * at0 q k - at0 q j * at0 r k := by
 rcases Nat.lt_or_ge j r.length with h1 | h1
 ·rw [at0_lt (by rw [comb_len r q k h]; exact h1), at0_lt h1, at0_lt (l := q) (j := j) (by omega)]
  unfold comb
  rw [List.getElem_zipWith]
 ·rw [at0_out (by rw [comb_len r q k h]; exact h1), at0_out h1, at0_out (l := q) (j := j) (by omega)]
  simp
def clr (k : Nat) (q r : List Int) : List Int := if at0 r k = 0 then r else tid (comb r q k)
theorem clr_len (k : Nat) (q r : List Int) (h : r.length = q.length) : (clr k q r).length = r.length := by
 unfold clr
 split
 ·rfl
 ·rw [tid_len, comb_len r q k h]
theorem clr_fac (k : Nat) (q r : List Int) (h : r.length = q.length) (hq : at0 q k ≠ 0) : ∃ g α β : Int, g ≠ 0 ∧ α ≠ 0 ∧ (∀ j, g * at0 (clr k q r) j = α * at0 r j - β * at0 q j) ∧ at0 (clr k q r) k = 0 := by
 unfold clr
 split
 ·rename_i h0
  exact ⟨1, 1, 0, by decide, by decide, fun j => by omega, h0⟩
 ·obtain ⟨g, hg, e⟩ := tid_fac (comb r q k)
  refine ⟨g, at0 q k, at0 r k, hg, hq, fun j => ?_, ?_⟩
  ·rw [e j, comb_at r q k h, Int.mul_comm (at0 q k), Int.mul_comm (at0 r k)]
  ·have := e k
   rw [comb_at r q k h, Int.mul_comm (at0 r k), Int.sub_self] at this
   exact (Int.mul_eq_zero.1 this).resolve_left hg
theorem clr_lead (k c : Nat) (q r : List Int) (h : r.length = q.length) (hc : 0 < at0 q c) (hq : ∀ j, j ≤ k → at0 q j = 0) (hr : ∀ j, j < k → at0 r j = 0) (hp : 0 < at0 r k) (hpr : Prim (at0 r)) : (∀ j, j < k → at0 (clr c q r) j = 0) ∧ 0 < at0 (clr c q r) k ∧ Prim (at0 (clr c q r)) := by
 unfold clr
 split
 ·exact ⟨hr, hp, hpr⟩
 ·have h0 : ∀ j, j < k → at0 (comb r q c) j = 0 := fun j hj => by
   rw [comb_at r q c h, hr j hj, hq j (by omega)]
   simp
  have h1 : 0 < at0 (comb r q c) k := by
   rw [comb_at r q c h, hq k (by omega)]
   have := Int.mul_pos hp hc
   omega
  have hg : gcdl (comb r q c) ≠ 0 := fun e => by
   have := gcdl_zero _ e k
   omega
  have hl := ld_eq _ k h0 (by omega)
  refine ⟨fun j hj => tid_low _ j (by omega), ?_, tid_prim _ hg⟩
  have := tid_pos _ hg
  rwa [hl] at this
theorem clr_tq (k : Nat) (q r : List Int) (h : (∀ j, at0 r j = 0) ∨ (Prim (at0 r) ∧ ∃ k, 0 < at0 r k ∧ ∀ j, j < k → at0 r j = 0)) :
  (∀ j, at0 (clr k q r) j = 0) ∨ (Prim (at0 (clr k q r)) ∧ ∃ i, 0 < at0 (clr k q r) i ∧ ∀ j, j < i → at0 (clr k q r) j = 0) := by
 unfold clr
 split
 ·exact h
 ·exact tid_tq _
theorem Red.step {S : V → Prop} {c n : Nat} {P : List (List Int × Nat)} {Q Q' : List (List Int)} (h : Red S c P Q) (hlP : ∀ p ∈ P, p.1.length = n) (hlQ : ∀ q ∈ Q, q.length = n) (q : List Int) (hc : at0 q c ≠ 0) (hq : q ∈ Q)
  (hQ : ∀ x ∈ Q, x = q ∨ x ∈ Q') (hQ' : ∀ x ∈ Q', x ∈ Q) : Red S (c + 1) ((q, c) :: P.map fun p => (clr c q p.1, p.2)) (Q'.map (clr c q)) := by
 have hst := h.st.step q c hc hq hQ hQ' (clr c q) fun r hr => clr_fac c q r (by
  rcases hr with ⟨p, hp, rfl⟩|hr
  ·rw [hlP p hp, hlQ q hq]
  ·rw [hlQ r (hQ' r hr), hlQ q hq]) hc
 have hqp : Prim (at0 q) ∧ 0 < at0 q c := by
  rcases h.tq q hq with h0|⟨hp, k, hk, hl⟩
  ·exact absurd (h0 c) hc
  ·refine ⟨hp, ?_⟩
   have h1 : c ≤ k := Nat.le_of_not_lt fun hlt => by
    have := h.low q hq k hlt
    omega
   have h2 : k ≤ c := Nat.le_of_not_lt fun hlt => hc (hl c hlt)
   have : k = c := by omega
   rw [← this]
   exact hk
 have hcl : ∀ p ∈ P, (∀ j, j < p.2 → at0 (clr c q p.1) j = 0) ∧ 0 < at0 (clr c q p.1) p.2 ∧ Prim (at0 (clr c q p.1)) := fun p hp => by
  have hn := h.ncol p hp
  exact clr_lead p.2 c q p.1 (by rw [hlP p hp, hlQ q hq]) hqp.2 (fun j hj => h.low q hq j (by omega)) (h.lead p hp) (h.pos p hp) (h.prim p hp)
 refine ⟨hst, ?_, ?_, ?_, ?_, ?_, ?_, ?_⟩
 ·intro r hr j hj
  replace hr := List.mem_map.1 hr
  obtain ⟨r, hr, rfl⟩ := hr
  have hrl := hQ' r hr
  obtain ⟨g, α, β, hg, _, e, h0⟩ := clr_fac c q r (by rw [hlQ r hrl, hlQ q hq]) hc
  by_cases ej : j = c
  ·rw [ej, h0]
  ·have := e j
   rw [h.low r hrl j (by omega), h.low q hq j (by omega)] at this
   have : g * at0 (clr c q r) j = 0 := by omega
   exact (Int.mul_eq_zero.1 this).resolve_left hg
 ·intro p hp
  replace hp := List.mem_cons.1 hp
  rcases hp with rfl|hp
  ·exact Nat.lt_succ_self _
  ·replace hp := List.mem_map.1 hp
   obtain ⟨p, hp, rfl⟩ := hp
   have := h.ncol p hp
   show p.2 < c + 1
   omega
 ·intro p hp j hj
  replace hp := List.mem_cons.1 hp
  rcases hp with rfl|hp
  ·exact h.low q hq j hj
  ·replace hp := List.mem_map.1 hp
   obtain ⟨p, hp, rfl⟩ := hp
   exact (hcl p hp).1 j hj
 ·intro p hp
  replace hp := List.mem_cons.1 hp
  rcases hp with rfl|hp
  ·exact hqp.2
  ·replace hp := List.mem_map.1 hp
   obtain ⟨p, hp, rfl⟩ := hp
   exact (hcl p hp).2.1
 ·intro p hp
  replace hp := List.mem_cons.1 hp
  rcases hp with rfl|hp
  ·exact hqp.1
  ·replace hp := List.mem_map.1 hp
   obtain ⟨p, hp, rfl⟩ := hp
   exact (hcl p hp).2.2
 ·intro r hr
  replace hr := List.mem_map.1 hr
  obtain ⟨r, hr, rfl⟩ := hr
  exact clr_tq c q r (h.tq r (hQ' r hr))
 ·simp only [List.map_cons, List.map_map]
  refine List.pairwise_cons.2 ⟨fun k hk => ?_, ?_⟩
  ·obtain ⟨p, hp, rfl⟩ := List.mem_map.1 hk
   exact h.ncol p hp
  ·exact h.sorted
theorem Red.skip {S : V → Prop} {c : Nat} {P : List (List Int × Nat)} {Q : List (List Int)} (h : Red S c P Q) (h0 : ∀ q ∈ Q, at0 q c = 0) : Red S (c + 1) P Q :=
 ⟨h.st, fun q hq j hj => by
  by_cases e : j = c
  ·rw [e]; exact h0 q hq
  ·exact h.low q hq j (by omega), fun p hp => by have := h.ncol p hp; omega, h.lead, h.pos, h.prim, h.tq, h.sorted⟩
def RowSp (m : List (List Int)) : V → Prop := fun v => ∃ r ∈ m, at0 r = v
theorem Red.start (m : List (List Int)) : Red (RowSp m) 0 [] (m.map tid) := by
 refine ⟨St.start _ _ (fun q hq => ?_) (fun v hv => ?_), fun q _ j hj => by omega, by simp, by simp, by simp, by simp, fun q hq => ?_, by simp⟩
 ·obtain ⟨r, hr, rfl⟩ := List.mem_map.1 hq
  obtain ⟨g, hg, e⟩ := tid_fac r
  exact ⟨at0 r, ⟨r, hr, rfl⟩, g, hg, e⟩
 ·obtain ⟨r, hr, rfl⟩ := hv
  obtain ⟨g, hg, e⟩ := tid_fac r
  exact ⟨tid r, List.mem_map_of_mem hr, g, hg, e⟩
 ·obtain ⟨r, hr, rfl⟩ := List.mem_map.1 hq
  exact tid_tq r
end Go.Proofs.YtojkepidkmkmpaaAlg
namespace Go.Proofs.YtojkepidkmkmpaaAlg
def bnd (m : Nat) (j : Nat) : Nat := if j < m then 2 else 1000
theorem prod_small (m : Nat) : ∀ (l : List Nat), (∀ k ∈ l, k < m) → prod (bnd m) l = 2 ^ l.length
 | [], _ => rfl
 | a :: l, h => by
  simp only [prod, List.length_cons]
  rw [prod_small m l fun k hk => h k (by simp [hk])]
  unfold bnd
  rw [if_pos (h a (by simp)), Nat.pow_succ, Nat.mul_comm]
theorem len_sorted : ∀ (l : List Nat) (c : Nat), l.Pairwise (· > ·) → (∀ k ∈ l, k < c) → l.length ≤ c
 | [], c, _, _ => by simp
 | a :: l, c, h, hc => by
  have h' := List.pairwise_cons.1 h
  have := len_sorted l a h'.2 fun k hk => h'.1 k hk
  have := hc a (by simp)
  simp only [List.length_cons]
  omega
theorem Red.len {S : V → Prop} {c : Nat} {P : List (List Int × Nat)} {Q : List (List Int)} (h : Red S c P Q) : P.length ≤ c := by
 have := len_sorted _ c h.sorted fun k hk => by
  obtain ⟨p, hp, rfl⟩ := List.mem_map.1 hk
  exact h.ncol p hp
 simpa using this
theorem fp_le : ∀ n, n < 7 → fct n * 2 ^ n ≤ 46080 ∧ fct n * 2 ^ (n - 1) * 1000 ≤ 23040000 ∧ fct (n + 1) * 2 ^ n * 1000 ≤ 322560000 ∧ fct n * 2 ^ (n - 1) * 2 ≤ 46080 := by decide
theorem bnd_le (m j : Nat) : bnd m j ≤ 1000 := by unfold bnd; split <;> omega
theorem Red.small_rest {S : V → Prop} {c m : Nat} {P : List (List Int × Nat)} {Q : List (List Int)} (h : Red S c P Q) (hb : ∀ o, S o → ∀ j, (o j).natAbs ≤ bnd m j) (hc : c ≤ m) (hm : m ≤ 6) (q : List Int) (hq : q ∈ Q) (j : Nat) : (at0 q j).natAbs ≤ 322560000 := by
 have hl := h.len
 have h1 := h.st.bound_rest (bnd m) hb q hq (by
  rcases h.tq q hq with h | h
  ·exact .inl h
  ·exact .inr h.1) j
 rw [prod_small m _ fun k hk => by
  obtain ⟨p, hp, rfl⟩ := List.mem_map.1 hk
  have := h.ncol p hp
  omega, List.length_map] at h1
 have h2 := (fp_le P.length (by omega)).2.2.1
 have h3 : fct (P.length + 1) * (bnd m j * 2 ^ P.length) ≤ fct (P.length + 1) * (1000 * 2 ^ P.length) := Nat.mul_le_mul_left _ (Nat.mul_le_mul_right _ (bnd_le m j))
 have h4 : fct (P.length + 1) * (1000 * 2 ^ P.length) = fct (P.length + 1) * 2 ^ P.length * 1000 := by
  rw [Nat.mul_comm 1000, Nat.mul_assoc]
 omega
theorem Red.small_piv {S : V → Prop} {c m : Nat} {P : List (List Int × Nat)} {Q : List (List Int)} (h : Red S c P Q) (hb : ∀ o, S o → ∀ j, (o j).natAbs ≤ bnd m j) (hc : c ≤ m) (hm : m ≤ 6) :
  ∃ D : Int, 0 < D ∧ D ≤ 46080 ∧ ∀ p ∈ P, ∃ e : Int, 0 < e ∧ D = at0 p.1 p.2 * e ∧ (∀ j, j < m → (e * at0 p.1 j).natAbs ≤ 46080) ∧ ∀ j, (e * at0 p.1 j).natAbs ≤ 23040000 := by
 have hl := h.len
 obtain ⟨D, hD, hDb, hh⟩ := h.st.bound_piv (bnd m) hb h.prim
 have hk : ∀ k ∈ P.map (·.2), k < m := fun k hk => by
  obtain ⟨p, hp, rfl⟩ := List.mem_map.1 hk
  have := h.ncol p hp
  omega
 rw [prod_small m _ hk, List.length_map] at hDb
 have h2 := fp_le P.length (by omega)
 refine ⟨D.natAbs, by omega, by omega, fun p hp => ?_⟩
 obtain ⟨e, he, hj⟩ := hh p hp
 have hpos := h.pos p hp
 have hnn : (e.natAbs : Int) * at0 p.1 p.2 = D.natAbs := by
  rw [he, Int.natAbs_mul, Int.natCast_mul, Int.mul_comm]
  congr 1
  omega
 have hj' : ∀ j, ((e.natAbs : Int) * at0 p.1 j).natAbs ≤ fct P.length * (bnd m j * 2 ^ (P.length - 1)) := fun j => by
  have := hj j
  rw [prod_small m _ fun k h => hk k (List.mem_of_mem_erase h), List.length_erase_of_mem (List.mem_map_of_mem hp), List.length_map] at this
  rw [Int.natAbs_mul] at this ⊢
  simpa using this
 have he0 : e ≠ 0 := fun e0 => hD (by rw [he, e0, Int.mul_zero])
 refine ⟨e.natAbs, by omega, by rw [← hnn, Int.mul_comm], fun j hjm => ?_, fun j => ?_⟩
 ·have h3 := hj' j
  have h4 : bnd m j = 2 := by unfold bnd;rw [if_pos hjm]
  rw [h4] at h3
  have h5 : fct P.length * (2 * 2 ^ (P.length - 1)) = fct P.length * 2 ^ (P.length - 1) * 2 := by rw [Nat.mul_comm 2, Nat.mul_assoc]
  omega
 ·have h3 := hj' j
  have h4 : fct P.length * (bnd m j * 2 ^ (P.length - 1)) ≤ fct P.length * (1000 * 2 ^ (P.length - 1)) := Nat.mul_le_mul_left _ (Nat.mul_le_mul_right _ (bnd_le m j))
  have h5 : fct P.length * (1000 * 2 ^ (P.length - 1)) = fct P.length * 2 ^ (P.length - 1) * 1000 := by rw [Nat.mul_comm 1000, Nat.mul_assoc]
  omega
theorem Red.small_piv' {S : V → Prop} {c m : Nat} {P : List (List Int × Nat)} {Q : List (List Int)} (h : Red S c P Q) (hb : ∀ o, S o → ∀ j, (o j).natAbs ≤ bnd m j) (hc : c ≤ m) (hm : m ≤ 6) (p : List Int × Nat) (hp : p ∈ P) (j : Nat) : (at0 p.1 j).natAbs ≤ 23040000 := by
 obtain ⟨D, _, _, hh⟩ := h.small_piv hb hc hm
 obtain ⟨e, he, _, _, hj⟩ := hh p hp
 have := hj j
 rw [Int.natAbs_mul] at this
 have : 1 * (at0 p.1 j).natAbs ≤ e.natAbs * (at0 p.1 j).natAbs := Nat.mul_le_mul_right _ (by omega)
 omega
end Go.Proofs.YtojkepidkmkmpaaAlg
end
section
set_option linter.unusedSimpArgs false
set_option linter.unusedVariables false
namespace Go.Proofs.Ytojkepidkmkmpaa.Pure
open Go.RowKit Go.Proofs.Ytojkepidkmkmpaa.PFnRows Go.Proofs.YtojkepidkmkmpaaW.PrintWords Go.Proofs.YtojkepidkmkmpaaW.PrintLast Go.Proofs.YtojkepidkmkmpaaW.PrintMore Go.Proofs.YtojkepidkmkmpaaAlg
theorem wrap_id {x : Int} (h1 : -9223372036854775808 ≤ x) (h2 : x < 9223372036854775808) : wrap64 x = x := by unfold wrap64; omega
theorem rd_nat (l : List Int) (i : Nat) (h : i < l.length) : rd l (i : Int) = l[i] := by
 unfold rd; rw [Int.toNat_natCast, List.getD_eq_getElem?_getD, List.getElem?_eq_getElem h]; rfl
theorem drop_eq_cons (l : List Int) (i : Nat) (h : i < l.length) : l.drop i = l[i] :: l.drop (i + 1) := List.drop_eq_getElem_cons h
theorem l1In_eq (a b c : Int) : spec_l1In.f a b c = some (decide (b ≤ a ∧ a ≤ c)) := by
 unfold spec_l1In.f
 by_cases h : a ≥ b
 ·rw [if_pos h]; congr 1; by_cases h2 : a ≤ c <;> simp [h2] <;> omega
 ·rw [if_neg h]; congr 1; simp; omega
theorem InRange_eq (a b c : Int) : impl_InRange.f a b c = some (decide (b ≤ a ∧ a ≤ c)) := by
 unfold impl_InRange.f
 by_cases h : b ≤ a
 ·rw [if_pos h]; congr 1; by_cases h2 : a ≤ c <;> simp [h2] <;> omega
 ·rw [if_neg h]; congr 1; simp; omega
theorem rdL_nat (l : List (List Int)) (i : Nat) (h : i < l.length) : rd_L1 l (i : Int) = l[i] := by
 unfold rd_L1
 rw [Int.toNat_natCast, List.getD_eq_getElem?_getD, List.getElem?_eq_getElem h]; rfl
theorem drop_consL (l : List (List Int)) (i : Nat) (h : i < l.length) : l.drop i = l[i] :: l.drop (i + 1) := List.drop_eq_getElem_cons h
def rowOk (c : Int) (r : List Int) : Bool := decide ((r.length : Int) = c) && r.all fun x => decide (-2 ≤ x ∧ x ≤ 2)
def isMat (l : List (List Int)) (c : Int) : Bool := decide (1 ≤ c ∧ c ≤ 6) && decide (l.length ≤ 12) && l.all (rowOk c)
theorem allIn_l0 (l : List Int) (hl : l.length ≤ 16777216) (a b : Int) (d : Nat) : ∀ (i : Nat), l.length - i = d → Ev (fun k => impl_allIn.l0 k a b l (l.length : Int) (i : Int)) ((l.drop i).all fun x => decide (a ≤ x ∧ x ≤ b)) := by
 induction d with
|zero =>
  intro i hd
  rw [List.drop_eq_nil_of_le (by omega)]
  refine Ev.step (f := fun _ => some true) (fun k => ?_) (Ev.now true)
  simp only [impl_allIn.l0]
  rw [if_neg (by omega)]
|succ d ih =>
  intro i hd
  have h : i < l.length := by omega
  rw [drop_eq_cons l i h, List.all_cons]
  by_cases c : a ≤ l[i] ∧ l[i] ≤ b
  ·rw [decide_eq_true c, Bool.true_and]
   refine Ev.step (f := fun k => impl_allIn.l0 k a b l (l.length : Int) ((i + 1 : Nat) : Int)) (fun k => ?_) (ih (i + 1) (by omega))
   simp only [impl_allIn.l0]
   rw [if_pos (by omega), if_pos (by omega), if_pos (by omega), rd_nat l i h, InRange_eq, decide_eq_true c]
   simp only [Option.bind_some, if_true]
   rw [wrap_id (by omega) (by omega)]
   rfl
  ·rw [decide_eq_false c, Bool.false_and]
   refine Ev.step (f := fun _ => some false) (fun k => ?_) (Ev.now false)
   simp only [impl_allIn.l0]
   rw [if_pos (by omega), if_pos (by omega), if_pos (by omega), rd_nat l i h, InRange_eq, decide_eq_false c]
   simp only [Option.bind_some, Bool.false_eq_true, if_false]
theorem allIn_ev (l : List Int) (hl : l.length ≤ 16777216) (a b : Int) : Ev (fun k => impl_allIn.f k l a b) (l.all fun x => decide (a ≤ x ∧ x ≤ b)) := by
 have := allIn_l0 l hl a b l.length 0 (by omega)
 exact this
theorem implMat_l0 (l : List (List Int)) (hl : l.length ≤ 16777216) (hm : ∀ r ∈ l, r.length ≤ 16777216) (c : Int) (d : Nat) : ∀ (i : Nat), l.length - i = d → Ev (fun k => impl_IsMatrix.l0 k c l (l.length : Int) (i : Int)) ((l.drop i).all (rowOk c)) := by
 induction d with
|zero =>
  intro i hd
  rw [List.drop_eq_nil_of_le (by omega)]
  refine Ev.step (f := fun _ => some true) (fun k => ?_) (Ev.now true)
  simp only [impl_IsMatrix.l0]
  rw [if_neg (by omega)]
|succ d ih =>
  intro i hd
  have h : i < l.length := by omega
  rw [drop_consL l i h, List.all_cons]
  by_cases c1 : (l[i].length : Int) = c
  ·have e : rowOk c l[i] = l[i].all fun x => decide (-2 ≤ x ∧ x ≤ 2) := by unfold rowOk;rw [decide_eq_true c1, Bool.true_and]
   rw [e]
   refine Ev.step (f := fun k => (impl_allIn.f k l[i] (-2) 2).bind fun t => if t = true then impl_IsMatrix.l0 k c l (l.length : Int) ((i + 1 : Nat) : Int) else some false) (fun k => ?_) (Ev.bind (allIn_ev l[i] (hm _ (List.getElem_mem h)) (-2) 2) ?_)
   ·simp only [impl_IsMatrix.l0]
    rw [if_pos (by omega), if_pos (by omega), if_pos (by omega), rdL_nat l i h, if_pos c1, wrap_id (by omega) (by omega)]
    rfl
   ·cases l[i].all fun x => decide (-2 ≤ x ∧ x ≤ 2) with
   |true => simp only [if_true, Bool.true_and];exact ih (i + 1) (by omega)
   |false => simp only [Bool.false_eq_true, if_false, Bool.false_and];exact Ev.now _
  ·have e : rowOk c l[i] = false := by unfold rowOk;rw [decide_eq_false c1, Bool.false_and]
   rw [e, Bool.false_and]
   refine Ev.step (f := fun _ => some false) (fun k => ?_) (Ev.now false)
   simp only [impl_IsMatrix.l0]
   rw [if_pos (by omega), if_pos (by omega), if_pos (by omega), rdL_nat l i h, if_neg c1]
theorem implMat_ev (l : List (List Int)) (hl : l.length ≤ 16777216) (hm : ∀ r ∈ l, r.length ≤ 16777216) (c : Int) : Ev (fun k => impl_IsMatrix.f k l c) (isMat l c) := by
 unfold impl_IsMatrix.f isMat
 simp only [InRange_eq, Option.bind_some]
 by_cases c1 : 1 ≤ c ∧ c ≤ 6
 ·simp only [decide_eq_true c1, if_true, Bool.true_and]
  by_cases c2 : l.length ≤ 12
  ·rw [decide_eq_true c2, Bool.true_and, decide_eq_false (show ¬ ((l.length : Int) > 12) by omega)]
   refine Ev.step (fun k => impl_IsMatrix.j0.eq_2 _ _ _ _) ?_
   simp only [Bool.false_eq_true, if_false]
   exact implMat_l0 l hl hm c l.length 0 (by omega)
  ·rw [decide_eq_false c2, Bool.false_and, decide_eq_true (show (l.length : Int) > 12 by omega)]
   refine Ev.step (fun k => impl_IsMatrix.j0.eq_2 _ _ _ _) ?_
   simp only [if_true]
   exact Ev.now _
 ·simp only [decide_eq_false c1, Bool.false_eq_true, if_false, Bool.false_and]
  refine Ev.step (fun k => impl_IsMatrix.j0.eq_2 _ _ _ _) ?_
  simp only [if_true]
  exact Ev.now _
theorem specMat_l1 (l : List (List Int)) (hl : l.length ≤ 16777216) (c : Int) (i : Nat) (h : i < l.length) (hc : (l[i].length : Int) = c) (hr : l[i].length ≤ 16777216) (R : Bool) (hR : Ev (fun k => spec_IsMatrix.l0 k l c ((i + 1 : Nat) : Int)) R) (d : Nat) : ∀ j : Nat, l[i].length - j = d → Ev (fun k => spec_IsMatrix.l1 k l c (i : Int) (j : Int)) (((l[i].drop j).all fun x => decide (-2 ≤ x ∧ x ≤ 2)) && R) := by
 induction d with
|zero =>
  intro j hd
  rw [List.drop_eq_nil_of_le (by omega)]
  refine Ev.step (f := fun k => spec_IsMatrix.l0 k l c ((i + 1 : Nat) : Int)) (fun k => ?_) (by simpa using hR)
  simp only [spec_IsMatrix.l1]
  rw [if_neg (by omega), wrap_id (by omega) (by omega)]
  rfl
|succ d ih =>
  intro j hd
  have hj : j < l[i].length := by omega
  rw [drop_eq_cons l[i] j hj, List.all_cons]
  by_cases c1 : -2 ≤ l[i][j] ∧ l[i][j] ≤ 2
  ·rw [decide_eq_true c1, Bool.true_and]
   refine Ev.step (f := fun k => spec_IsMatrix.l1 k l c (i : Int) ((j + 1 : Nat) : Int)) (fun k => ?_) (ih (j + 1) (by omega))
   simp only [spec_IsMatrix.l1]
   rw [if_pos (by omega), if_pos (by omega), if_pos (by omega), if_pos (by omega), rdL_nat l i h, if_pos (by omega), rd_nat _ j hj, l1In_eq, decide_eq_true c1]
   simp only [Option.bind_some, if_true]
   rw [wrap_id (by omega) (by omega)]
   rfl
  ·rw [decide_eq_false c1, Bool.false_and, Bool.false_and]
   refine Ev.step (f := fun _ => some false) (fun k => ?_) (Ev.now false)
   simp only [spec_IsMatrix.l1]
   rw [if_pos (by omega), if_pos (by omega), if_pos (by omega), if_pos (by omega), rdL_nat l i h, if_pos (by omega), rd_nat _ j hj, l1In_eq, decide_eq_false c1]
   simp only [Option.bind_some, Bool.false_eq_true, if_false]
theorem specMat_l0 (l : List (List Int)) (hl : l.length ≤ 16777216) (hm : ∀ r ∈ l, r.length ≤ 16777216) (c : Int) (d : Nat) : ∀ (i : Nat), l.length - i = d → Ev (fun k => spec_IsMatrix.l0 k l c (i : Int)) ((l.drop i).all (rowOk c)) := by
 induction d with
|zero =>
  intro i hd
  rw [List.drop_eq_nil_of_le (by omega)]
  refine Ev.step (f := fun _ => some true) (fun k => ?_) (Ev.now true)
  simp only [spec_IsMatrix.l0]
  rw [if_neg (by omega)]
|succ d ih =>
  intro i hd
  have h : i < l.length := by omega
  rw [drop_consL l i h, List.all_cons]
  by_cases c1 : (l[i].length : Int) = c
  ·have e : rowOk c l[i] = l[i].all fun x => decide (-2 ≤ x ∧ x ≤ 2) := by unfold rowOk;rw [decide_eq_true c1, Bool.true_and]
   rw [e]
   refine Ev.step (f := fun k => spec_IsMatrix.l1 k l c (i : Int) ((0 : Nat) : Int)) (fun k => ?_) (specMat_l1 l hl c i h c1 (hm _ (List.getElem_mem h)) _ (ih (i + 1) (by omega)) l[i].length 0 (by omega))
   simp only [spec_IsMatrix.l0]
   rw [if_pos (by omega), if_pos (by omega), rdL_nat l i h, if_pos c1]
   rfl
  ·have e : rowOk c l[i] = false := by unfold rowOk;rw [decide_eq_false c1, Bool.false_and]
   rw [e, Bool.false_and]
   refine Ev.step (f := fun _ => some false) (fun k => ?_) (Ev.now false)
   simp only [spec_IsMatrix.l0]
   rw [if_pos (by omega), if_pos (by omega), rdL_nat l i h, if_neg c1]
theorem specMat_ev (l : List (List Int)) (hl : l.length ≤ 16777216) (hm : ∀ r ∈ l, r.length ≤ 16777216) (c : Int) : Ev (fun k => spec_IsMatrix.f k l c) (isMat l c) := by
 unfold spec_IsMatrix.f isMat
 simp only [l1In_eq, Option.bind_some]
 by_cases c1 : 1 ≤ c ∧ c ≤ 6
 ·simp only [decide_eq_true c1, if_true, Bool.true_and]
  by_cases c2 : l.length ≤ 12
  ·rw [decide_eq_true c2, Bool.true_and, decide_eq_false (show ¬ ((l.length : Int) > 12) by omega)]
   refine Ev.step (fun k => spec_IsMatrix.j0.eq_2 _ _ _ _) ?_
   simp only [Bool.false_eq_true, if_false]
   exact specMat_l0 l hl hm c l.length 0 (by omega)
  ·rw [decide_eq_false c2, Bool.false_and, decide_eq_true (show (l.length : Int) > 12 by omega)]
   refine Ev.step (fun k => spec_IsMatrix.j0.eq_2 _ _ _ _) ?_
   simp only [if_true]
   exact Ev.now _
 ·simp only [decide_eq_false c1, Bool.false_eq_true, if_false, Bool.false_and]
  refine Ev.step (fun k => spec_IsMatrix.j0.eq_2 _ _ _ _) ?_
  simp only [if_true]
  exact Ev.now _
theorem impl_gcd_l0 (b : Nat) : ∀ a : Nat, Ev (fun k => impl_gcd.l0 k (a : Int) (b : Int)) ((Nat.gcd a b : Nat) : Int) := by
 induction b using Nat.strongRecOn with
|ind b ih =>
  intro a
  by_cases h : b = 0
  ·subst h
   refine Ev.step (f := fun _ => some (a : Int)) (fun k => ?_) (by simpa using Ev.now (a : Int))
   simp only [impl_gcd.l0]
   rw [if_pos (by omega)]
  ·have hg : Nat.gcd a b = Nat.gcd b (a % b) := by rw [Nat.gcd_comm a b, Nat.gcd_rec b a, Nat.gcd_comm]
   rw [hg]
   refine Ev.step (f := fun k => impl_gcd.l0 k (b : Int) ((a % b : Nat) : Int)) (fun k => ?_) (ih (a % b) (Nat.mod_lt _ (by omega)) b)
   simp only [impl_gcd.l0]
   rw [if_neg (by omega), Int.tmod_eq_emod_of_nonneg (by omega)]
   rfl
theorem gcdI_ev (a b : Int) (ha : -9223372036854775808 < a) (ha' : a < 9223372036854775808) (hb : -9223372036854775808 < b) (hb' : b < 9223372036854775808) : Ev (fun k => impl_gcd.f k a b) ((Int.gcd a b : Nat) : Int) := by
 have h0 : Ev (fun k => impl_gcd.j0 k ((a.natAbs : Nat) : Int) b) ((Int.gcd a b : Nat) : Int) := by
  refine Ev.step (f := fun k => impl_gcd.j1 k ((a.natAbs : Nat) : Int) ((b.natAbs : Nat) : Int)) (fun k => ?_) (Ev.step (fun k => impl_gcd.j1.eq_2 _ _ _) (impl_gcd_l0 b.natAbs a.natAbs))
  simp only [impl_gcd.j0]
  by_cases h : b < 0
  ·rw [if_pos h, wrap_id (by omega) (by omega), show -b = ((b.natAbs : Nat) : Int) by omega]
  ·rw [if_neg h, show (b.natAbs : Int) = b by omega]
 unfold impl_gcd.f
 by_cases h : a < 0
 ·simp only [if_pos h]
  rw [wrap_id (by omega) (by omega), show -a = ((a.natAbs : Nat) : Int) by omega]
  exact h0
 ·simp only [if_neg h]
  rw [show (a.natAbs : Int) = a by omega] at h0
  exact h0
theorem ev_to {α : Type} {f : Nat → Option α} {a b : α} (h : Ev f a) (e : a = b) : Ev f b := e ▸ h
theorem at0_rd (l : List Int) (i : Nat) : rd l (i : Int) = at0 l i := by
 unfold rd at0
 rw [Int.toNat_natCast]
theorem idx96_l0 (l : List Int) (hl : l.length ≤ 16777216) (d : Nat) : ∀ i : Nat, l.length - i = d → i ≤ ld l → Ev (fun k => slices_IndexFunc_int_int_96.l0 k l (l.length : Int) (i : Int)) (if ld l < l.length then (ld l : Int) else -1) := by
 induction d with
|zero =>
  intro i hd hi
  have := ld_le l
  rw [if_neg (by omega)]
  refine Ev.step (f := fun _ => some (-1)) (fun k => ?_) (Ev.now _)
  simp only [slices_IndexFunc_int_int_96.l0]
  rw [if_neg (by omega)]
|succ d ih =>
  intro i hd hi
  have h : i < l.length := by omega
  by_cases e : at0 l i = 0
  ·have hne : i ≠ ld l := fun e2 => by
    subst e2
    exact ld_ne l h e
   refine Ev.step (f := fun k => slices_IndexFunc_int_int_96.l0 k l (l.length : Int) ((i + 1 : Nat) : Int)) (fun k => ?_) (ih (i + 1) (by omega) (by omega))
   simp only [slices_IndexFunc_int_int_96.l0]
   rw [if_pos (by omega), if_pos (by omega), if_pos (by omega), at0_rd, if_pos e, wrap_id (by omega) (by omega)]
   rfl
  ·have he : ld l = i := ld_eq l i (fun j hj => ld_low l j (by omega)) e
   rw [he, if_pos h]
   refine Ev.step (f := fun _ => some (i : Int)) (fun k => ?_) (Ev.now _)
   simp only [slices_IndexFunc_int_int_96.l0]
   rw [if_pos (by omega), if_pos (by omega), if_pos (by omega), at0_rd, if_neg e]
theorem leadI_ev (l : List Int) (hl : l.length ≤ 16777216) : Ev (fun k => impl_lead.f k l) (if ld l < l.length then (ld l : Int) else -1) := by
 unfold impl_lead.f
 refine Ev.bind (idx96_l0 l hl l.length 0 (by omega) (by omega)) (Ev.now _)
theorem gcdl_lt (B : Nat) (hB : 0 < B) : ∀ l : List Int, (∀ x ∈ l, x.natAbs < B) → gcdl l < B
 | [], _ => by simpa [gcdl] using hB
 | x :: l, h => by
  rw [gcdl_cons]
  by_cases hx : x.natAbs = 0
  ·rw [hx, Nat.gcd_zero_left]
   exact gcdl_lt B hB l fun y hy => h y (by simp [hy])
  ·have := Nat.le_of_dvd (Nat.pos_of_ne_zero hx) (Nat.gcd_dvd_left x.natAbs (gcdl l))
   have := h x (by simp)
   omega
theorem gcdl_take (l : List Int) (i : Nat) (h : i < l.length) : gcdl (l.take (i + 1)) = Nat.gcd (gcdl (l.take i)) l[i].natAbs := by
 rw [List.take_succ_eq_append_getElem h]
 show List.foldl _ _ _ = _
 rw [List.foldl_append]
 rfl
theorem gcd_int (g : Nat) (x : Int) : Int.gcd (g : Int) x = Nat.gcd g x.natAbs := rfl
theorem mem_small {l : List Int} {B : Nat} (h : ∀ j, (at0 l j).natAbs < B) : ∀ x ∈ l, x.natAbs < B := fun x hx => by
 obtain ⟨i, hi, rfl⟩ := List.getElem_of_mem hx
 have := h i
 rwa [at0_lt hi] at this
def mixl {α : Type} (a b : List α) (i : Nat) : List α := b.take i ++ a.drop i
theorem mixl_zero {α : Type} (a b : List α) : mixl a b 0 = a := by simp [mixl]
theorem mixl_all {α : Type} (a b : List α) (i : Nat) (h : a.length = b.length) (hi : a.length ≤ i) : mixl a b i = b := by
 unfold mixl
 rw [List.drop_eq_nil_of_le hi, List.append_nil, List.take_of_length_le (by omega)]
theorem mixl_len {α : Type} (a b : List α) (i : Nat) (h : a.length = b.length) (hi : i ≤ a.length) : (mixl a b i).length = a.length := by
 simp only [mixl, List.length_append, List.length_take, List.length_drop]
 omega
theorem mixl_get {α : Type} (a b : List α) (i j : Nat) (h : a.length = b.length) : (mixl a b i)[j]? = if j < i then b[j]? else a[j]? := by
 unfold mixl
 by_cases hj : j < i
 ·rw [if_pos hj]
  by_cases h2 : j < b.length
  ·rw [List.getElem?_append_left (by rw [List.length_take]; omega), List.getElem?_take, if_pos hj]
  ·rw [List.getElem?_append_right (by rw [List.length_take]; omega), List.getElem?_eq_none (l := b) (by omega), List.getElem?_eq_none]
   rw [List.length_drop, List.length_take]
   omega
 ·rw [if_neg hj]
  by_cases h2 : j < b.length
  ·rw [List.getElem?_append_right (by rw [List.length_take]; omega), List.length_take, List.getElem?_drop]
   congr 1
   omega
  ·rw [List.getElem?_append_right (by rw [List.length_take]; omega), List.length_take, List.getElem?_drop, List.getElem?_eq_none (by omega), List.getElem?_eq_none (by omega)]
theorem mixl_set {α : Type} (a b : List α) (i : Nat) (x : α) (h : a.length = b.length) (hx : b[i]? = some x) : (mixl a b i).set i x = mixl a b (i + 1) := by
 have hi := (List.getElem?_eq_some_iff.1 hx).1
 apply List.ext_getElem?
 intro j
 rw [List.getElem?_set, mixl_len a b i h (by omega), mixl_get a b (i + 1) j h]
 by_cases e : i = j
 ·subst e
  rw [if_pos rfl, if_pos (by omega), if_pos (by omega), hx]
 ·rw [if_neg e, mixl_get a b i j h]
  by_cases hj : j < i
  ·rw [if_pos hj, if_pos (by omega)]
  ·rw [if_neg hj, if_neg (by omega)]
def part (l : List Int) (i : Nat) : List Int := mixl l (tid l) i
theorem part_zero (l : List Int) : part l 0 = l := mixl_zero _ _
theorem part_all (l : List Int) : part l l.length = tid l := mixl_all _ _ _ (tid_len l).symm (Nat.le_refl _)
theorem part_len (l : List Int) (i : Nat) (h : i ≤ l.length) : (part l i).length = l.length := mixl_len _ _ _ (tid_len l).symm h
theorem mixl_at (a b : List Int) (i : Nat) (h : a.length = b.length) : at0 (mixl a b i) i = at0 a i := by
 unfold at0
 rw [List.getD_eq_getElem?_getD, List.getD_eq_getElem?_getD, mixl_get a b i i h, if_neg (by omega)]
theorem part_at (l : List Int) (i : Nat) (h : i < l.length) : at0 (part l i) i = at0 l i := mixl_at _ _ _ (tid_len l).symm
theorem part_succ (l : List Int) (i : Nat) (h : i < l.length) (x : Int) (hx : x = at0 (tid l) i) : (part l i).set i x = part l (i + 1) := by
 refine mixl_set _ _ _ _ (tid_len l).symm ?_
 have ht := tid_len l
 rw [hx, at0_lt (by omega), List.getElem?_eq_getElem (by omega)]
theorem div_step (l : List Int) (hg : gcdl l ≠ 0) (hs : ∀ j, (at0 l j).natAbs < 9223372036854775808) (i : Nat) : wrap64 (Int.tdiv (at0 l i) (sg l)) = at0 (tid l) i := by
 have h1 := tid_mul l hg i
 have h2 : Int.tdiv (at0 l i) (sg l) = at0 (tid l) i := by
  rw [← h1]
  exact Int.mul_tdiv_cancel_left _ (sg_ne l hg)
 rw [h2]
 have h3 := hs i
 have h5 : (at0 (tid l) i).natAbs ≤ (at0 l i).natAbs := by
  rw [← h1, Int.natAbs_mul]
  exact Nat.le_mul_of_pos_left _ (Int.natAbs_pos.2 (sg_ne l hg))
 exact wrap_id (by omega) (by omega)
theorem tidyI_l1 (l : List Int) (hl : l.length ≤ 16777216) (hg : gcdl l ≠ 0) (hs : ∀ j, (at0 l j).natAbs < 9223372036854775808) (d : Nat) : ∀ i : Nat, l.length - i = d → i ≤ l.length → Ev (fun k => impl_tidy.l1 k (part l i) (sg l) (l.length : Int) (i : Int)) (tid l) := by
 induction d with
|zero =>
  intro i hd hi
  refine Ev.step (f := fun _ => some (part l i)) (fun k => ?_) (ev_to (Ev.now (part l i)) (by rw [show i = l.length by omega, part_all]))
  simp only [impl_tidy.l1]
  rw [if_neg (by omega)]
|succ d ih =>
  intro i hd hi
  have h : i < l.length := by omega
  have hp := part_len l i (by omega)
  refine Ev.step (f := fun k => impl_tidy.l1 k (part l (i + 1)) (sg l) (l.length : Int) ((i + 1 : Nat) : Int)) (fun k => ?_) (ih (i + 1) (by omega) (by omega))
  simp only [impl_tidy.l1]
  rw [if_pos (by omega), if_pos (by omega), if_pos (by omega), if_neg (sg_ne l hg), at0_rd, part_at l i h, div_step l hg hs i, Int.toNat_natCast, part_succ l i h _ rfl, wrap_id (by omega) (by omega)]
  rfl
theorem sg_case (l : List Int) : sg l = if at0 l (ld l) < 0 then -(gcdl l : Int) else gcdl l := rfl
theorem tidyI_l0 (l : List Int) (hl : l.length ≤ 16777216) (hs : ∀ j, (at0 l j).natAbs < 9223372036854775808) (d : Nat) : ∀ i : Nat, l.length - i = d → i ≤ l.length → Ev (fun k => impl_tidy.l0 k l ((gcdl (l.take i) : Nat) : Int) l (l.length : Int) (i : Int)) (tid l) := by
 have hm := mem_small hs
 induction d with
|zero =>
  intro i hd hi
  rw [List.take_of_length_le (by omega)]
  have hgl := gcdl_lt _ (by decide) l hm
  by_cases hg : gcdl l = 0
  ·refine Ev.step (f := fun _ => some l) (fun k => ?_) (ev_to (Ev.now l) (by unfold tid;rw [if_pos hg]))
   simp only [impl_tidy.l0]
   rw [if_neg (by omega), if_pos (by omega)]
  ·have hld := ld_lt l hg
   have hlead := leadI_ev l hl
   rw [if_pos hld] at hlead
   have hl1 := tidyI_l1 l hl hg hs l.length 0 (by omega) (by omega)
   rw [part_zero] at hl1
   have hj : Ev (fun k => impl_tidy.j1 k l (sg l)) (tid l) := Ev.step (fun k => impl_tidy.j1.eq_2 _ _ _) hl1
   refine Ev.step (f := fun k => (impl_lead.f k l).bind fun t => if 0 ≤ t then (if t < (l.length : Int) then (if rd l t < 0 then impl_tidy.j1 k l (wrap64 (-((gcdl l : Nat) : Int))) else impl_tidy.j1 k l ((gcdl l : Nat) : Int)) else none) else none) (fun k => ?_) ?_
   ·simp only [impl_tidy.l0]
    rw [if_neg (by omega), if_neg (by omega)]
   ·refine Ev.bind hlead ?_
    simp only [if_pos (show (0 : Int) ≤ (ld l : Int) by omega), if_pos (show (ld l : Int) < (l.length : Int) by omega), at0_rd]
    have hc := sg_case l
    by_cases hn : at0 l (ld l) < 0
    ·simp only [if_pos hn] at hc ⊢
     rw [wrap_id (by omega) (by omega), ← hc]
     exact hj
    ·simp only [if_neg hn] at hc ⊢
     rw [← hc]
     exact hj
|succ d ih =>
  intro i hd hi
  have h : i < l.length := by omega
  have hgl := gcdl_lt 9223372036854775808 (by decide) (l.take i) fun x hx => hm x (List.mem_of_mem_take hx)
  have hsi := hs i
  have hgc := gcdI_ev ((gcdl (l.take i) : Nat) : Int) (at0 l i) (by omega) (by omega) (by omega) (by omega)
  rw [gcd_int, at0_lt h, ← gcdl_take l i h] at hgc
  refine Ev.step (f := fun k => (impl_gcd.f k ((gcdl (l.take i) : Nat) : Int) l[i]).bind fun t => impl_tidy.l0 k l t l (l.length : Int) ((i + 1 : Nat) : Int)) (fun k => ?_) (Ev.bind hgc (ih (i + 1) (by omega) (by omega)))
  simp only [impl_tidy.l0]
  rw [if_pos (by omega), if_pos (by omega), if_pos (by omega), at0_rd, at0_lt h, wrap_id (by omega) (by omega)]
  rfl
theorem tidyI_ev (l : List Int) (hl : l.length ≤ 16777216) (hs : ∀ j, (at0 l j).natAbs < 9223372036854775808) : Ev (fun k => impl_tidy.f k l) (tid l) := tidyI_l0 l hl hs l.length 0 (by omega) (by omega)
theorem mapO_ev (f : Nat → List Int → Option (List Int)) (g : List Int → List Int) : ∀ l : List (List Int), (∀ x ∈ l, Ev (fun k => f k x) (g x)) → Ev (fun k => impl_reduceAny.mapO (f k) l) (l.map g)
|[], _ => Ev.now []
|x :: l, h => by
  refine Ev.congr (f := fun k => (f k x).bind fun y => (impl_reduceAny.mapO (f k) l).bind fun m => some (y :: m)) (fun k => rfl) ?_
  exact Ev.bind (h x (by simp)) (Ev.bind (mapO_ev f g l fun y hy => h y (by simp [hy])) (Ev.now _))
def Small (l : List Int) : Prop := ∀ j, (at0 l j).natAbs ≤ 322560000
theorem mul_small {a b : Int} (ha : a.natAbs ≤ 322560000) (hb : b.natAbs ≤ 322560000) : (a * b).natAbs ≤ 104044953600000000 := by
 rw [Int.natAbs_mul]
 exact Nat.mul_le_mul ha hb
theorem comb_step (x p : List Int) (c i : Nat) (h : x.length = p.length) (hx : Small x) (hp : Small p) : wrap64 (wrap64 (at0 x i * at0 p c) - wrap64 (at0 p i * at0 x c)) = at0 (comb x p c) i := by
 have h1 := mul_small (hx i) (hp c)
 have h2 := mul_small (hp i) (hx c)
 rw [wrap_id (x := at0 x i * at0 p c) (by omega) (by omega), wrap_id (x := at0 p i * at0 x c) (by omega) (by omega), wrap_id (by omega) (by omega), comb_at x p c h]
theorem comb_small (x p : List Int) (c : Nat) (h : x.length = p.length) (hx : Small x) (hp : Small p) (j : Nat) : (at0 (comb x p c) j).natAbs < 9223372036854775808 := by
 have h1 := mul_small (hx j) (hp c)
 have h2 := mul_small (hp j) (hx c)
 rw [comb_at x p c h]
 omega
theorem rowI_l0 (x p : List Int) (c : Nat) (h : x.length = p.length) (hl : x.length ≤ 16777216) (hc : c < x.length) (hx : Small x) (hp : Small p) (d : Nat) : ∀ i : Nat, x.length - i = d → i ≤ x.length → Ev (fun k => impl_reduceAny.l0 k (c : Int) p (mixl x (comb x p c) i) (at0 x c) (x.length : Int) (i : Int)) (tid (comb x p c)) := by
 have hcl := (comb_len x p c h).symm
 induction d with
|zero =>
  intro i hd hi
  rw [mixl_all _ _ _ hcl (by omega)]
  refine Ev.step (f := fun k => (impl_tidy.f k (comb x p c)).bind fun t => some t) (fun k => ?_) (Ev.bind (tidyI_ev _ (by omega) (comb_small x p c h hx hp)) (Ev.now _))
  simp only [impl_reduceAny.l0]
  rw [if_neg (by omega)]
|succ d ih =>
  intro i hd hi
  have hi2 : i < x.length := by omega
  have hm := mixl_len _ _ i hcl (by omega)
  refine Ev.step (f := fun k => impl_reduceAny.l0 k (c : Int) p (mixl x (comb x p c) (i + 1)) (at0 x c) (x.length : Int) ((i + 1 : Nat) : Int)) (fun k => ?_) (ih (i + 1) (by omega) (by omega))
  simp only [impl_reduceAny.l0]
  rw [if_pos (by omega), if_pos (by omega), if_pos (by omega), if_pos (by omega), if_pos (by omega), if_pos (by omega), at0_rd, at0_rd, at0_rd, mixl_at _ _ _ hcl, comb_step x p c i h hx hp, Int.toNat_natCast,
   mixl_set _ _ _ _ hcl (by rw [at0_lt (by omega), List.getElem?_eq_getElem (by omega)]), wrap_id (by omega) (by omega)]
  rfl
theorem rowI_ev (x p : List Int) (c : Nat) (h : x.length = p.length) (hl : x.length ≤ 16777216) (hc : c < x.length) (hx : Small x) (hp : Small p) : Ev (fun k => impl_reduceAny.row k (c : Int) p x) (clr c p x) := by
 unfold impl_reduceAny.row clr
 simp only [if_pos (show (0 : Int) ≤ (c : Int) by omega), if_pos (show (c : Int) < (x.length : Int) by omega), at0_rd]
 by_cases e : at0 x c = 0
 ·simp only [if_pos e]
  exact Ev.now x
 ·simp only [if_neg e]
  have := rowI_l0 x p c h hl hc hx hp x.length 0 (by omega) (by omega)
  rw [mixl_zero] at this
  exact this
def hit (c : Nat) (x : List Int) : Bool := decide (ld x = c ∧ c < x.length)
theorem idx106_l0 (X : List (List Int)) (c : Nat) (hl : X.length ≤ 16777216) (hr : ∀ x ∈ X, x.length ≤ 16777216) (d : Nat) : ∀ i : Nat, X.length - i = d → i ≤ X.length → (∀ j, j < i → ∀ x, X[j]? = some x → hit c x = false) →
  Ev (fun k => slices_IndexFunc_int_int_106.l0 k X (c : Int) (X.length : Int) (i : Int)) (if X.findIdx (hit c) < X.length then (X.findIdx (hit c) : Int) else -1) := by
 induction d with
|zero =>
  intro i hd hi hh
  have hn : ¬ X.findIdx (hit c) < X.length := fun h => by
   have h1 := List.findIdx_getElem (w := h)
   have h2 := hh _ (by omega) _ (List.getElem?_eq_getElem h)
   rw [h2] at h1
   cases h1
  rw [if_neg hn]
  refine Ev.step (f := fun _ => some (-1)) (fun k => ?_) (Ev.now _)
  simp only [slices_IndexFunc_int_int_106.l0]
  rw [if_neg (by omega)]
|succ d ih =>
  intro i hd hi hh
  have h : i < X.length := by omega
  have hlead := leadI_ev X[i] (hr _ (List.getElem_mem h))
  refine Ev.step (f := fun k => (impl_lead.f k X[i]).bind fun t => if t = (c : Int) then some (i : Int) else slices_IndexFunc_int_int_106.l0 k X (c : Int) (X.length : Int) ((i + 1 : Nat) : Int)) (fun k => ?_) (Ev.bind hlead ?_)
  ·simp only [slices_IndexFunc_int_int_106.l0]
   rw [if_pos (by omega), if_pos (by omega), if_pos (by omega), rdL_nat X i h, wrap_id (by omega) (by omega)]
   rfl
  ·by_cases e : hit c X[i] = true
   ·have e' : ld X[i] = c ∧ c < X[i].length := by simpa [hit] using e
    have hf : X.findIdx (hit c) = i := by
     refine (List.findIdx_eq h).2 ⟨e, fun j hj => ?_⟩
     exact hh j hj _ (List.getElem?_eq_getElem (by omega))
    rw [hf, if_pos h]
    simp only [if_pos (show ld X[i] < X[i].length by omega), if_pos (show (ld X[i] : Int) = (c : Int) by omega)]
    exact Ev.now _
   ·have e' : ¬ (ld X[i] = c ∧ c < X[i].length) := by simpa [hit] using e
    simp only [if_neg (show ¬ (if ld X[i] < X[i].length then (ld X[i] : Int) else -1) = (c : Int) by split <;> omega)]
    refine ih (i + 1) (by omega) (by omega) fun j hj x hx => ?_
    by_cases ej : j = i
    ·subst ej
     rw [List.getElem?_eq_getElem h] at hx
     cases hx
     simpa using e
    ·exact hh j (by omega) x hx
theorem idx106_ev (X : List (List Int)) (c : Nat) (hl : X.length ≤ 16777216) (hr : ∀ x ∈ X, x.length ≤ 16777216) : Ev (fun k => slices_IndexFunc_int_int_106.f k X (c : Int)) (if X.findIdx (hit c) < X.length then (X.findIdx (hit c) : Int) else -1) :=
 idx106_l0 X c hl hr X.length 0 (by omega) (by omega) fun j hj => by omega
theorem copy_l0 (l : List (List Int)) (hl : l.length ≤ 16777216) (hr : ∀ x ∈ l, x.length ≤ 16777216) (d : Nat) : ∀ i : Nat, l.length - i = d → i ≤ l.length → Ev (fun k => impl_copyRows.l0 k (l.take i) l (l.length : Int) (i : Int)) l := by
 induction d with
|zero =>
  intro i hd hi
  rw [List.take_of_length_le (by omega)]
  refine Ev.step (f := fun _ => some l) (fun k => ?_) (Ev.now _)
  simp only [impl_copyRows.l0]
  rw [if_neg (by omega)]
|succ d ih =>
  intro i hd hi
  have h : i < l.length := by omega
  have hc : slices_Clone_int_int_95.f l[i] = some l[i] := by
   have := hr _ (List.getElem_mem h)
   unfold slices_Clone_int_int_95.f
   simp only [Option.bind_some, List.length_nil, List.nil_append, Nat.zero_add]
   rw [if_pos (by omega)]
  refine Ev.step (f := fun k => impl_copyRows.l0 k (l.take (i + 1)) l (l.length : Int) ((i + 1 : Nat) : Int)) (fun k => ?_) (ih (i + 1) (by omega) (by omega))
  simp only [impl_copyRows.l0]
  rw [if_pos (by omega), if_pos (by omega), if_pos (by omega), rdL_nat l i h, hc]
  simp only [Option.bind_some]
  rw [if_pos (by rw [List.length_take];omega), ← List.take_succ_eq_append_getElem h, wrap_id (by omega) (by omega)]
  rfl
theorem copy_ev (l : List (List Int)) (hl : l.length ≤ 16777216) (hr : ∀ x ∈ l, x.length ≤ 16777216) : Ev (fun k => impl_copyRows.f k l) l := copy_l0 l hl hr l.length 0 (by omega) (by omega)
theorem findIdx_hit (Q : List (List Int)) (c : Nat) (h : Q.findIdx (hit c) < Q.length) : hit c Q[Q.findIdx (hit c)] = true := List.findIdx_getElem (w := h)
theorem implLp {S : V → Prop} {m0 n : Nat} (hb : ∀ o, S o → ∀ j, (o j).natAbs ≤ bnd m0 j) (hm0 : m0 ≤ 6) (hn : n ≤ m0 + 1) (d : Nat) : ∀ (c : Nat) (P : List (List Int × Nat)) (Q : List (List Int)), c + d = n → Red S c P Q → (∀ p ∈ P, p.1.length = n) → (∀ q ∈ Q, q.length = n) → Q.length ≤ 16777216 →
  ∃ P' Q', Red S n P' Q' ∧ (∀ p ∈ P', p.1.length = n) ∧ (∀ q ∈ Q', q.length = n) ∧ Ev (fun k => impl_reduceAny.lp k d c Q (P.map (·.1)).reverse) (P'.map (·.1)).reverse := by
 induction d with
|zero =>
  intro c P Q hcd hR hP hQ hl
  obtain rfl : n = c := by omega
  exact ⟨P, Q, hR, hP, hQ, Ev.now _⟩
|succ d ih =>
  intro c P Q hcd hR hP hQ hl
  have hidx := idx106_ev Q c hl fun q hq => by rw [hQ q hq];omega
  by_cases hf : Q.findIdx (hit c) < Q.length
  ·obtain ⟨i, hi⟩ : ∃ i, i = Q.findIdx (hit c) := ⟨_, rfl⟩
   have hh := findIdx_hit Q c hf
   simp only [← hi] at hidx hf hh
   obtain ⟨q, hq⟩ : ∃ q, q = Q[i] := ⟨_, rfl⟩
   rw [← hq] at hh
   have hqm : q ∈ Q := by rw [hq];exact List.getElem_mem hf
   have hh' : ld q = c ∧ c < q.length := by simpa [hit] using hh
   have hqc : at0 q c ≠ 0 := by
    have := ld_ne q (by omega)
    rwa [hh'.1] at this
   have hsQ : ∀ r ∈ Q, Small r := fun r hr j => hR.small_rest hb (by omega) hm0 r hr j
   have hsP : ∀ p ∈ P, Small p.1 := fun p hp j => by
    have := hR.small_piv' hb (by omega) hm0 p hp j
    omega
   have hst := hR.step (Q' := Q.eraseIdx i) hP hQ q hqc hqm (fun x hx => by
    by_cases e : x = q
    ·exact .inl e
    ·right
     obtain ⟨j, hj, rfl⟩ := List.getElem_of_mem hx
     have hji : j ≠ i := fun e2 => by
      subst e2
      exact e hq.symm
     rw [List.mem_iff_getElem?]
     by_cases hlt : j < i
     ·exact ⟨j, by rw [List.getElem?_eraseIdx, if_pos hlt, List.getElem?_eq_getElem hj]⟩
     ·refine ⟨j - 1, ?_⟩
      rw [List.getElem?_eraseIdx, if_neg (by omega), show j - 1 + 1 = j by omega, List.getElem?_eq_getElem hj]) (fun x hx => List.mem_of_mem_eraseIdx hx)
   obtain ⟨P', Q', hR', hP', hQ', hev⟩ := ih (c + 1) _ _ (by omega) hst (fun p hp => by
    rcases List.mem_cons.1 hp with h|h
    ·rw [h];exact hQ q hqm
    ·obtain ⟨p2, hp2, e⟩ := List.mem_map.1 h
     rw [← e]
     show (clr c q p2.1).length = n
     rw [clr_len c q p2.1 (by rw [hP p2 hp2, hQ q hqm]), hP p2 hp2]) (fun r hr => by
    obtain ⟨r2, hr2, e⟩ := List.mem_map.1 hr
    have := hQ r2 (List.mem_of_mem_eraseIdx hr2)
    rw [← e, clr_len c q r2 (by rw [this, hQ q hqm]), this]) (by rw [List.length_map, List.length_eraseIdx, if_pos hf];omega)
   refine ⟨P', Q', hR', hP', hQ', ?_⟩
   refine Ev.congr (f := fun k => (slices_IndexFunc_int_int_106.f k Q (c : Int)).bind fun i => if i < 0 then impl_reduceAny.lp k d (c + 1) Q (P.map (·.1)).reverse else if i < (Q.length : Int) then (impl_reduceAny.mapO (impl_reduceAny.row k (c : Int) (Q.getD i.toNat [])) (Q.eraseIdx i.toNat)).bind fun X' => (impl_reduceAny.mapO (impl_reduceAny.row k (c : Int) (Q.getD i.toNat [])) (P.map (·.1)).reverse).bind fun Y' => impl_reduceAny.lp k d (c + 1) X' (Y' ++ [Q.getD i.toNat []]) else none) (fun k => rfl) (Ev.bind hidx ?_)
   simp only [if_pos hf]
   simp only [if_neg (show ¬ (i : Int) < 0 by omega), if_pos (show (i : Int) < (Q.length : Int) by omega), Int.toNat_natCast]
   have hgd : Q.getD i [] = q := by rw [hq, List.getD_eq_getElem?_getD, List.getElem?_eq_getElem hf];rfl
   simp only [hgd]
   refine Ev.bind (mapO_ev (fun k => impl_reduceAny.row k (c : Int) q) (clr c q) _ fun x hx => ?_) ?_
   ·have hx2 := List.mem_of_mem_eraseIdx hx
    exact rowI_ev x q c (by rw [hQ x hx2, hQ q hqm]) (by rw [hQ x hx2];omega) (by rw [hQ x hx2];omega) (hsQ x hx2) (hsQ q hqm)
   ·refine Ev.bind (mapO_ev (fun k => impl_reduceAny.row k (c : Int) q) (clr c q) _ fun x hx => ?_) ?_
    ·obtain ⟨p, hp, e⟩ := List.mem_map.1 (List.mem_reverse.1 hx)
     subst e
     exact rowI_ev p.1 q c (by rw [hP p hp, hQ q hqm]) (by rw [hP p hp];omega) (by rw [hP p hp];omega) (hsP p hp) (hsQ q hqm)
    ·have e : (P.map (·.1)).reverse.map (clr c q) ++ [q] = (((q, c) :: P.map fun p => (clr c q p.1, p.2)).map (·.1)).reverse := by
      simp [List.map_reverse, List.map_map, Function.comp_def]
     rw [e]
     exact hev
  ·obtain ⟨P', Q', hR', hP', hQ', hev⟩ := ih (c + 1) P Q (by omega) (hR.skip fun q hq => by
    refine Classical.byContradiction fun hne => ?_
    have hld := ld_eq q c (fun j hj => hR.low q hq j hj) hne
    have hlt : c < q.length := by rw [hQ q hq];omega
    have hh : hit c q = true := by simp [hit, hld, hlt]
    exact hf (List.findIdx_lt_length_of_exists ⟨q, hq, hh⟩)) hP hQ hl
   refine ⟨P', Q', hR', hP', hQ', ?_⟩
   refine Ev.congr (f := fun k => (slices_IndexFunc_int_int_106.f k Q (c : Int)).bind fun i => if i < 0 then impl_reduceAny.lp k d (c + 1) Q (P.map (·.1)).reverse else if i < (Q.length : Int) then (impl_reduceAny.mapO (impl_reduceAny.row k (c : Int) (Q.getD i.toNat [])) (Q.eraseIdx i.toNat)).bind fun X' => (impl_reduceAny.mapO (impl_reduceAny.row k (c : Int) (Q.getD i.toNat [])) (P.map (·.1)).reverse).bind fun Y' => impl_reduceAny.lp k d (c + 1) X' (Y' ++ [Q.getD i.toNat []]) else none) (fun k => rfl) (Ev.bind hidx ?_)
   simp only [if_neg hf]
   simp only [if_pos (show (-1 : Int) < 0 by omega)]
   exact hev
structure Okm (m : List (List Int)) (m0 n : Nat) : Prop where
 pos : 1 ≤ n
 cols : n ≤ m0 + 1
 le6 : m0 ≤ 6
 rows : m.length ≤ 1000
 len : ∀ r ∈ m, r.length = n
 small : ∀ r ∈ m, ∀ j, (at0 r j).natAbs ≤ bnd m0 j
theorem Okm.start {m : List (List Int)} {m0 n : Nat} (h : Okm m m0 n) : (∀ o, RowSp m o → ∀ j, (o j).natAbs ≤ bnd m0 j) ∧ ∀ r ∈ m, ∀ j, (at0 r j).natAbs < 9223372036854775808 := by
 refine ⟨fun o ho j => ?_, fun r hr j => ?_⟩
 ·obtain ⟨r, hr, rfl⟩ := ho
  exact h.small r hr j
 ·have := h.small r hr j
  have := bnd_le m0 j
  omega
theorem implRed {m : List (List Int)} {m0 n : Nat} (h : Okm m m0 n) : ∃ P Q, Red (RowSp m) n P Q ∧ (∀ p ∈ P, p.1.length = n) ∧ (∀ q ∈ Q, q.length = n) ∧ Ev (fun k => impl_reduceAny.f k m (n : Int)) (P.map (·.1)).reverse := by
 have h1 := h.pos;have h2 := h.cols;have h3 := h.le6;have h4 := h.rows
 obtain ⟨P, Q, hR, hP, hQ, hev⟩ := implLp h.start.1 h.le6 h.cols n 0 [] (m.map tid) (by omega) (Red.start m) (by simp) (fun q hq => by
  obtain ⟨r, hr, rfl⟩ := List.mem_map.1 hq
  rw [tid_len, h.len r hr]) (by rw [List.length_map];omega)
 refine ⟨P, Q, hR, hP, hQ, ?_⟩
 unfold impl_reduceAny.f
 refine Ev.bind (copy_ev m (by omega) fun r hr => by rw [h.len r hr];omega) ?_
 simp only [if_pos (show 1 ≤ (n : Int) ∧ (n : Int) ≤ 1000000 ∧ m.length ≤ 1000000 ∧ (∀ x ∈ m, (x.length : Int) = (n : Int)) from ⟨by omega, by omega, by omega, fun x hx => by rw [h.len x hx]⟩)]
 refine Ev.bind (mapO_ev (fun k => impl_tidy.f k) tid m fun x hx => tidyI_ev x (by rw [h.len x hx];omega) (h.start.2 x hx)) ?_
 rw [Int.toNat_natCast]
 exact hev
theorem isMat_iff (m : List (List Int)) (c : Int) : isMat m c = true ↔ (1 ≤ c ∧ c ≤ 6) ∧ m.length ≤ 12 ∧ ∀ r ∈ m, (r.length : Int) = c ∧ ∀ x ∈ r, -2 ≤ x ∧ x ≤ 2 := by
 unfold isMat rowOk
 simp only [Bool.and_eq_true, decide_eq_true_eq, List.all_eq_true]
 constructor
 ·rintro ⟨⟨h1, h2⟩, h3⟩
  exact ⟨h1, h2, h3⟩
 ·rintro ⟨h1, h2, h3⟩
  exact ⟨⟨h1, h2⟩, h3⟩
theorem red_rest {S : V → Prop} {c n : Nat} {P : List (List Int × Nat)} {Q : List (List Int)} (h : Red S c P Q) (hcn : n ≤ c) (hQ : ∀ q ∈ Q, q.length = n) : ∀ q ∈ Q, ∀ j, at0 q j = 0 := fun q hq j => by
 rcases Nat.lt_or_ge j c with hj | hj
 ·exact h.low q hq j hj
 ·exact at0_out (by rw [hQ q hq]; omega)
theorem okm_of_isMat {m : List (List Int)} {c : Int} (h : isMat m c = true) : ∃ n : Nat, c = (n : Int) ∧ Okm m n n ∧ m.length ≤ 12 := by
 have h' := (isMat_iff m c).1 h
 obtain ⟨h1, h2, h3⟩ := h'
 refine ⟨c.toNat, by omega, ⟨by omega, by omega, by omega, by omega, fun r hr => ?_, fun r hr j => ?_⟩, h2⟩
 ·have := (h3 r hr).1
  omega
 ·have h4 := h3 r hr
  rcases Nat.lt_or_ge j r.length with hj|hj
  ·rw [at0_lt hj]
   have h5 := h4.2 _ (List.getElem_mem hj)
   unfold bnd
   rw [if_pos (by omega)]
   omega
  ·rw [at0_out hj]
   simp
def bothB (m : List (List Int)) (row : List Int) : Bool := isMat m (row.length : Int) && isMat [row] (row.length : Int)
theorem okm_append {m : List (List Int)} {row : List Int} {n : Nat} (h : Okm m n n) (hm : m.length ≤ 12) (hl : row.length = n) (hs : ∀ j, (at0 row j).natAbs ≤ bnd n j) : Okm (m ++ [row]) n n :=
 ⟨h.pos, h.cols, h.le6, by simp; omega, fun r hr => by
  rcases List.mem_append.1 hr with h' | h'
  ·exact h.len r h'
  ·rw [List.mem_singleton.1 h']; exact hl, fun r hr j => by
  rcases List.mem_append.1 hr with h' | h'
  ·exact h.small r h' j
  ·rw [List.mem_singleton.1 h']; exact hs j⟩
theorem sp_sub {m : List (List Int)} (row : List Int) {v : V} (h : Sp (RowSp m) v) : Sp (RowSp (m ++ [row])) v := h.mono fun v ⟨r, hr, e⟩ => ⟨r, List.mem_append_left _ hr, e⟩
theorem sp_sup {m : List (List Int)} {row : List Int} (hrow : Sp (RowSp m) (at0 row)) {v : V} (h : Sp (RowSp (m ++ [row])) v) : Sp (RowSp m) v := h.trans fun v ⟨r, hr, e⟩ => by
 rcases List.mem_append.1 hr with h' | h'
 ·exact Sp.of ⟨r, h', e⟩
 ·rw [← e, List.mem_singleton.1 h']; exact hrow
theorem sorted_sub : ∀ (l l' : List Nat), l.Pairwise (· > ·) → l'.Pairwise (· > ·) → (∀ k ∈ l, k ∈ l') → l'.length ≤ l.length → l = l'
 | [], l', _, _, _, h => (List.eq_nil_of_length_eq_zero (by simpa using h)).symm
 | a :: l, [], _, _, h, _ => absurd (h a (by simp)) (by simp)
 | a :: l, b :: l', h1, h2, h, hl => by
  have h1' := List.pairwise_cons.1 h1
  have h2' := List.pairwise_cons.1 h2
  have hnod : (a :: l).Nodup := h1.imp fun h => by omega
  by_cases e : a = b
  ·subst e
   rw [sorted_sub l l' h1'.2 h2'.2 (fun k hk => by
    rcases List.mem_cons.1 (h k (by simp [hk])) with e | h
    ·have := h1'.1 k hk; omega
    ·exact h) (by simpa using hl)]
  ·exfalso
   have ha : a ∈ l' := by
    rcases List.mem_cons.1 (h a (by simp)) with e' | h'
    ·exact absurd e' e
    ·exact h'
   have hab := h2'.1 a ha
   have hall : ∀ k ∈ a :: l, k ∈ l' := fun k hk => by
    rcases List.mem_cons.1 (h k hk) with e' | h'
    ·rcases List.mem_cons.1 hk with e2 | h2
     ·omega
     ·have := h1'.1 k h2; omega
    ·exact h'
   have := hnod.length_le_of_subset (l₂ := l') hall
   simp only [List.length_cons] at this hl
   omega
theorem sp_of_res {S : V → Prop} {P : List (List Int × Nat)} {L : Int} (hL : L ≠ 0) (hP : ∀ p ∈ P, Sp S (at0 p.1)) {v : V} (h : ∀ j, res L P v j = 0) : Sp S v := by
 refine Sp.div L hL ((sumOver_mem S P (fun p => L / at0 p.1 p.2 * v p.2) hP).congr fun j => ?_)
 have := h j
 unfold res at this
 omega
theorem span_iff {m : List (List Int)} {row : List Int} {n : Nat} {P P2 : List (List Int × Nat)} {Q Q2 : List (List Int)} (h : Red (RowSp m) n P Q) (h2 : Red (RowSp (m ++ [row])) n P2 Q2) (hz2 : ∀ q ∈ Q2, ∀ j, at0 q j = 0) :
  P.length = P2.length ↔ Sp (RowSp m) (at0 row) := by
 constructor
 ·intro hl
  have hc : P.map (·.2) = P2.map (·.2) := sorted_sub _ _ h.sorted h2.sorted (fun k hk => by
   obtain ⟨hkn, v, hv, hh⟩ := (h.mem_iff k).1 hk
   exact (h2.mem_iff k).2 ⟨hkn, v, sp_sub row hv, hh⟩) (by simp [hl])
  refine sp_of_res (P := P) (common_ne h.st.piv.2.1) h.st.inP fun j => ?_
  have hmem : Sp (RowSp (m ++ [row])) (res (common P) P (at0 row)) := res_mem _ (Sp.of ⟨row, by simp, rfl⟩) fun p hp => sp_sub row (h.st.inP p hp)
  refine zero_of_piv h2.st.piv (h2.span hz2 hmem) (fun p2 hp2 => ?_) j
  have : p2.2 ∈ P.map (·.2) := by rw [hc];exact List.mem_map_of_mem hp2
  obtain ⟨p, hp, e⟩ := List.mem_map.1 this
  rw [← e]
  exact res_piv h.st.piv (common P) dvd_common (at0 row) p hp
 ·intro hs
  have := h.cols h2 fun v => ⟨sp_sub row, sp_sup hs⟩
  have := congrArg List.length this
  simpa using this
theorem implSpan_j0 {m : List (List Int)} {row : List Int} {n : Nat} (hm : Okm m n n) (hm12 : m.length ≤ 12) (hl : row.length = n) (hs : ∀ j, (at0 row j).natAbs ≤ bnd n j) : ∃ b : Bool, Ev (fun k => impl_IsInSpan.j0 k m row (n : Int) false) b ∧ (b = true ↔ Sp (RowSp m) (at0 row)) := by
 obtain ⟨P, Q, hR, hP, hQ, hev⟩ := implRed hm
 obtain ⟨P2, Q2, hR2, hP2, hQ2, hev2⟩ := implRed (okm_append hm hm12 hl hs)
 refine ⟨((P.map (·.1)).reverse.length : Int) == ((P2.map (·.1)).reverse.length : Int), ?_, ?_⟩
 ·refine Ev.step (f := fun k => (impl_reduceAny.f k m (n : Int)).bind fun t => (impl_reduceAny.f k (m ++ [row]) (n : Int)).bind fun u => some ((t.length : Int) == (u.length : Int))) (fun k => ?_) (Ev.bind hev (Ev.bind hev2 (Ev.now _)))
  have hc : slices_Clone_int_int_78.f m = some m := by
   unfold slices_Clone_int_int_78.f
   simp only [Option.bind_some, List.length_nil, List.nil_append, Nat.zero_add]
   rw [if_pos (by omega)]
  simp only [impl_IsInSpan.j0]
  rw [if_neg (by decide), hc]
  simp only [Option.bind_some, if_pos (show m.length < 5864062014805 by omega)]
 ·rw [beq_iff_eq, ← span_iff hR hR2 (red_rest hR2 (Nat.le_refl _) hQ2)]
  simp only [List.length_reverse, List.length_map]
  omega
theorem implSpan_ev (m : List (List Int)) (row : List Int) (hm : m.length ≤ 16777216) (hr : ∀ x ∈ m, x.length ≤ 16777216) (hl : row.length ≤ 16777216) : ∃ b : Bool, Ev (fun k => impl_IsInSpan.f k m row) b ∧
  (bothB m row = true → (b = true ↔ Sp (RowSp m) (at0 row))) ∧ (bothB m row = false → b = false) := by
 have h1 := implMat_ev m hm hr (row.length : Int)
 have h2 := implMat_ev [row] (by simp) (fun x hx => by rw [List.mem_singleton.1 hx];exact hl) (row.length : Int)
 have hj : Ev (fun k => impl_IsInSpan.j0 k m row (row.length : Int) true) false := Ev.step (f := fun _ => some false) (fun k => by simp only [impl_IsInSpan.j0];rw [if_pos trivial]) (Ev.now _)
 cases hb : isMat m (row.length : Int) with
|false =>
  rw [hb] at h1
  refine ⟨false, ?_, by simp [bothB, hb], by simp⟩
  unfold impl_IsInSpan.f
  refine Ev.bind h1 ?_
  simp only [Bool.false_eq_true, if_false]
  exact hj
|true =>
  rw [hb] at h1
  cases hb2 : isMat [row] (row.length : Int) with
 |false =>
   rw [hb2] at h2
   refine ⟨false, ?_, by simp [bothB, hb2], by simp⟩
   unfold impl_IsInSpan.f
   refine Ev.bind h1 ?_
   simp only [if_true]
   refine Ev.bind h2 ?_
   simp only [Bool.not_false]
   exact hj
 |true =>
   rw [hb2] at h2
   obtain ⟨n, hn, hok, hm12⟩ := okm_of_isMat hb
   obtain ⟨n2, hn2, hok2, _⟩ := okm_of_isMat hb2
   have e1 : row.length = n := by omega
   have e2 : n2 = n := by omega
   subst e2
   obtain ⟨b, hbe, hbi⟩ := implSpan_j0 hok hm12 e1 (hok2.small row (by simp))
   refine ⟨b, ?_, fun _ => hbi, by simp [bothB, hb, hb2]⟩
   unfold impl_IsInSpan.f
   refine Ev.bind h1 ?_
   simp only [if_true]
   refine Ev.bind h2 ?_
   simp only [Bool.not_true]
   rw [e1]
   exact hbe
structure SpanInv (D : Int) (row : List Int) (B : List (List Int × Nat)) (n : Nat) (x : List Int) : Prop where
 len : x.length = n
 small : ∀ j, (at0 x j).natAbs ≤ 645120
 prop : ∃ a b : Int, a ≠ 0 ∧ b ≠ 0 ∧ ∀ j, a * at0 x j = b * res D B (at0 row) j
theorem implLpN {S : V → Prop} {m0 n : Nat} (hb : ∀ o, S o → ∀ j, (o j).natAbs ≤ bnd m0 j) (hm0 : m0 ≤ 6) (hn : n ≤ m0 + 1) (d : Nat) : ∀ (c : Nat) (P : List (List Int × Nat)) (Q : List (List Int)), c + d = n → Red S c P Q → (∀ p ∈ P, p.1.length = n) → (∀ q ∈ Q, q.length = n) → Q.length ≤ 16777216 →
  ∃ P' Q', Red S n P' Q' ∧ (∀ p ∈ P', p.1.length = n) ∧ (∀ q ∈ Q', q.length = n) ∧ P'.length + Q'.length = P.length + Q.length ∧ Ev (fun k => impl_reduceAny.lp k d c Q (P.map (·.1)).reverse) (P'.map (·.1)).reverse := by
 induction d with
|zero =>
  intro c P Q hcd hR hP hQ hl
  obtain rfl : n = c := by omega
  exact ⟨P, Q, hR, hP, hQ, rfl, Ev.now _⟩
|succ d ih =>
  intro c P Q hcd hR hP hQ hl
  have hidx := idx106_ev Q c hl fun q hq => by rw [hQ q hq];omega
  by_cases hf : Q.findIdx (hit c) < Q.length
  ·obtain ⟨i, hi⟩ : ∃ i, i = Q.findIdx (hit c) := ⟨_, rfl⟩
   have hh := findIdx_hit Q c hf
   simp only [← hi] at hidx hf hh
   obtain ⟨q, hq⟩ : ∃ q, q = Q[i] := ⟨_, rfl⟩
   rw [← hq] at hh
   have hqm : q ∈ Q := by rw [hq];exact List.getElem_mem hf
   have hh' : ld q = c ∧ c < q.length := by simpa [hit] using hh
   have hqc : at0 q c ≠ 0 := by
    have := ld_ne q (by omega)
    rwa [hh'.1] at this
   have hsQ : ∀ r ∈ Q, Small r := fun r hr j => hR.small_rest hb (by omega) hm0 r hr j
   have hsP : ∀ p ∈ P, Small p.1 := fun p hp j => by
    have := hR.small_piv' hb (by omega) hm0 p hp j
    omega
   have hst := hR.step (Q' := Q.eraseIdx i) hP hQ q hqc hqm (fun x hx => by
    by_cases e : x = q
    ·exact .inl e
    ·right
     obtain ⟨j, hj, rfl⟩ := List.getElem_of_mem hx
     have hji : j ≠ i := fun e2 => by
      subst e2
      exact e hq.symm
     rw [List.mem_iff_getElem?]
     by_cases hlt : j < i
     ·exact ⟨j, by rw [List.getElem?_eraseIdx, if_pos hlt, List.getElem?_eq_getElem hj]⟩
     ·refine ⟨j - 1, ?_⟩
      rw [List.getElem?_eraseIdx, if_neg (by omega), show j - 1 + 1 = j by omega, List.getElem?_eq_getElem hj]) (fun x hx => List.mem_of_mem_eraseIdx hx)
   obtain ⟨P', Q', hR', hP', hQ', hcnt, hev⟩ := ih (c + 1) _ _ (by omega) hst (fun p hp => by
    rcases List.mem_cons.1 hp with h|h
    ·rw [h];exact hQ q hqm
    ·obtain ⟨p2, hp2, e⟩ := List.mem_map.1 h
     rw [← e]
     show (clr c q p2.1).length = n
     rw [clr_len c q p2.1 (by rw [hP p2 hp2, hQ q hqm]), hP p2 hp2]) (fun r hr => by
    obtain ⟨r2, hr2, e⟩ := List.mem_map.1 hr
    have := hQ r2 (List.mem_of_mem_eraseIdx hr2)
    rw [← e, clr_len c q r2 (by rw [this, hQ q hqm]), this]) (by rw [List.length_map, List.length_eraseIdx, if_pos hf];omega)
   refine ⟨P', Q', hR', hP', hQ', by rw [hcnt, List.length_cons, List.length_map, List.length_map, List.length_eraseIdx, if_pos hf];omega, ?_⟩
   refine Ev.congr (f := fun k => (slices_IndexFunc_int_int_106.f k Q (c : Int)).bind fun i => if i < 0 then impl_reduceAny.lp k d (c + 1) Q (P.map (·.1)).reverse else if i < (Q.length : Int) then (impl_reduceAny.mapO (impl_reduceAny.row k (c : Int) (Q.getD i.toNat [])) (Q.eraseIdx i.toNat)).bind fun X' => (impl_reduceAny.mapO (impl_reduceAny.row k (c : Int) (Q.getD i.toNat [])) (P.map (·.1)).reverse).bind fun Y' => impl_reduceAny.lp k d (c + 1) X' (Y' ++ [Q.getD i.toNat []]) else none) (fun k => rfl) (Ev.bind hidx ?_)
   simp only [if_pos hf]
   simp only [if_neg (show ¬ (i : Int) < 0 by omega), if_pos (show (i : Int) < (Q.length : Int) by omega), Int.toNat_natCast]
   have hgd : Q.getD i [] = q := by rw [hq, List.getD_eq_getElem?_getD, List.getElem?_eq_getElem hf];rfl
   simp only [hgd]
   refine Ev.bind (mapO_ev (fun k => impl_reduceAny.row k (c : Int) q) (clr c q) _ fun x hx => ?_) ?_
   ·have hx2 := List.mem_of_mem_eraseIdx hx
    exact rowI_ev x q c (by rw [hQ x hx2, hQ q hqm]) (by rw [hQ x hx2];omega) (by rw [hQ x hx2];omega) (hsQ x hx2) (hsQ q hqm)
   ·refine Ev.bind (mapO_ev (fun k => impl_reduceAny.row k (c : Int) q) (clr c q) _ fun x hx => ?_) ?_
    ·obtain ⟨p, hp, e⟩ := List.mem_map.1 (List.mem_reverse.1 hx)
     subst e
     exact rowI_ev p.1 q c (by rw [hP p hp, hQ q hqm]) (by rw [hP p hp];omega) (by rw [hP p hp];omega) (hsP p hp) (hsQ q hqm)
    ·have e : (P.map (·.1)).reverse.map (clr c q) ++ [q] = (((q, c) :: P.map fun p => (clr c q p.1, p.2)).map (·.1)).reverse := by
      simp [List.map_reverse, List.map_map, Function.comp_def]
     rw [e]
     exact hev
  ·obtain ⟨P', Q', hR', hP', hQ', hcnt, hev⟩ := ih (c + 1) P Q (by omega) (hR.skip fun q hq => by
    refine Classical.byContradiction fun hne => ?_
    have hld := ld_eq q c (fun j hj => hR.low q hq j hj) hne
    have hlt : c < q.length := by rw [hQ q hq];omega
    have hh : hit c q = true := by simp [hit, hld, hlt]
    exact hf (List.findIdx_lt_length_of_exists ⟨q, hq, hh⟩)) hP hQ hl
   refine ⟨P', Q', hR', hP', hQ', hcnt, ?_⟩
   refine Ev.congr (f := fun k => (slices_IndexFunc_int_int_106.f k Q (c : Int)).bind fun i => if i < 0 then impl_reduceAny.lp k d (c + 1) Q (P.map (·.1)).reverse else if i < (Q.length : Int) then (impl_reduceAny.mapO (impl_reduceAny.row k (c : Int) (Q.getD i.toNat [])) (Q.eraseIdx i.toNat)).bind fun X' => (impl_reduceAny.mapO (impl_reduceAny.row k (c : Int) (Q.getD i.toNat [])) (P.map (·.1)).reverse).bind fun Y' => impl_reduceAny.lp k d (c + 1) X' (Y' ++ [Q.getD i.toNat []]) else none) (fun k => rfl) (Ev.bind hidx ?_)
   simp only [if_neg hf]
   simp only [if_pos (show (-1 : Int) < 0 by omega)]
   exact hev
theorem implRedN {m : List (List Int)} {m0 n : Nat} (h : Okm m m0 n) : ∃ P Q, Red (RowSp m) n P Q ∧ (∀ p ∈ P, p.1.length = n) ∧ (∀ q ∈ Q, q.length = n) ∧ P.length + Q.length = m.length ∧ Ev (fun k => impl_reduceAny.f k m (n : Int)) (P.map (·.1)).reverse := by
 have h1 := h.pos;have h2 := h.cols;have h3 := h.le6;have h4 := h.rows
 obtain ⟨P, Q, hR, hP, hQ, hcnt, hev⟩ := implLpN h.start.1 h.le6 h.cols n 0 [] (m.map tid) (by omega) (Red.start m) (by simp) (fun q hq => by
  obtain ⟨r, hr, rfl⟩ := List.mem_map.1 hq
  rw [tid_len, h.len r hr]) (by rw [List.length_map];omega)
 refine ⟨P, Q, hR, hP, hQ, by simpa using hcnt, ?_⟩
 unfold impl_reduceAny.f
 refine Ev.bind (copy_ev m (by omega) fun r hr => by rw [h.len r hr];omega) ?_
 simp only [if_pos (show 1 ≤ (n : Int) ∧ (n : Int) ≤ 1000000 ∧ m.length ≤ 1000000 ∧ (∀ x ∈ m, (x.length : Int) = (n : Int)) from ⟨by omega, by omega, by omega, fun x hx => by rw [h.len x hx]⟩)]
 refine Ev.bind (mapO_ev (fun k => impl_tidy.f k) tid m fun x hx => tidyI_ev x (by rw [h.len x hx];omega) (h.start.2 x hx)) ?_
 rw [Int.toNat_natCast]
 exact hev
theorem at0_set (v : List Int) (k : Nat) (x : Int) (h : k < v.length) (j : Nat) : at0 (v.set k x) j = if j = k then x else at0 v j := by
 unfold at0
 rw [List.getD_eq_getElem?_getD, List.getD_eq_getElem?_getD, List.getElem?_set]
 by_cases e : j = k
 ·rw [if_pos e, if_pos e.symm, if_pos (by omega)]
  rfl
 ·rw [if_neg e, if_neg (fun h => e h.symm)]
def dotN (a w : V) : Nat → Int
 | 0 => 0
 | i + 1 => dotN a w i + a i * w i
theorem dotN_zero {a w : V} : ∀ n : Nat, (∀ j, j < n → a j = 0 ∨ w j = 0) → dotN a w n = 0
 | 0, _ => rfl
 | n + 1, h => by
  simp only [dotN]
  rw [dotN_zero n fun j hj => h j (by omega)]
  rcases h n (by omega) with e | e <;> rw [e] <;> simp
theorem dotN_set (a b w : V) (k : Nat) (x : Int) (hb : ∀ j, b j = if j = k then x else a j) : ∀ n : Nat, dotN b w n = dotN a w n + if k < n then (x - a k) * w k else 0
 | 0 => by simp [dotN]
 | n + 1 => by
  simp only [dotN]
  rw [dotN_set a b w k x hb n, hb n]
  by_cases e : n = k
  ·subst e
   rw [if_neg (by omega), if_pos rfl, if_pos (by omega), Int.sub_mul]
   omega
  ·rw [if_neg e]
   by_cases h : k < n
   ·rw [if_pos h, if_pos (by omega)]; omega
   ·rw [if_neg h, if_neg (by omega)]; omega
theorem dotN_bound (a w : V) (B : Nat) : ∀ n : Nat, (∀ j, j < n → (a j * w j).natAbs ≤ B) → (dotN a w n).natAbs ≤ n * B
 | 0, _ => by simp [dotN]
 | n + 1, h => by
  have h1 := dotN_bound a w B n fun j hj => h j (by omega)
  have h2 := h n (by omega)
  simp only [dotN, Nat.add_mul, Nat.one_mul]
  omega
def cmS (l : Int) (p : List Int × Nat) : Int := l / ((Int.gcd l (at0 p.1 p.2) : Nat) : Int) * at0 p.1 p.2
theorem cmS_lcm (l x : Int) (hl : 0 < l) (hx : 0 < x) : l / ((Int.gcd l x : Nat) : Int) * x = ((Nat.lcm l.natAbs x.natAbs : Nat) : Int) := by
 obtain ⟨a, rfl⟩ := Int.eq_ofNat_of_zero_le (Int.le_of_lt hl)
 obtain ⟨b, rfl⟩ := Int.eq_ofNat_of_zero_le (Int.le_of_lt hx)
 rw [show Int.gcd (a : Int) (b : Int) = Nat.gcd a b from rfl, Int.natAbs_natCast, Int.natAbs_natCast]
 have : a / Nat.gcd a b * b = Nat.lcm a b := by
  unfold Nat.lcm
  exact Nat.div_mul_right_comm (Nat.gcd_dvd_left a b) b
 rw [← this]
 simp
theorem cmS_ok (D l : Int) (p : List Int × Nat) (hl : 0 < l) (hx : 0 < at0 p.1 p.2) (h1 : l ∣ D) (h2 : at0 p.1 p.2 ∣ D) : 0 < cmS l p ∧ cmS l p ∣ D ∧ l ∣ cmS l p ∧ at0 p.1 p.2 ∣ cmS l p := by
 unfold cmS
 rw [cmS_lcm l _ hl hx]
 have e1 : 0 < l.natAbs := by omega
 have e2 : 0 < (at0 p.1 p.2).natAbs := by omega
 refine ⟨by have := Nat.lcm_pos e1 e2;omega, ?_, ?_, ?_⟩
 ·rw [Int.ofNat_dvd_left]
  exact Nat.lcm_dvd (Int.natAbs_dvd_natAbs.2 h1) (Int.natAbs_dvd_natAbs.2 h2)
 ·rw [← Int.natAbs_dvd, Int.natCast_dvd_natCast]
  exact Nat.dvd_lcm_left _ _
 ·rw [← Int.natAbs_dvd, Int.natCast_dvd_natCast]
  exact Nat.dvd_lcm_right _ _
theorem cm_ok (D : Int) : ∀ (L : List (List Int × Nat)) (l : Int), (∀ p ∈ L, 0 < at0 p.1 p.2 ∧ at0 p.1 p.2 ∣ D) → 0 < l → l ∣ D → 0 < L.foldl cmS l ∧ L.foldl cmS l ∣ D ∧ l ∣ L.foldl cmS l ∧ ∀ p ∈ L, at0 p.1 p.2 ∣ L.foldl cmS l
|[], l, _, hl, hd => ⟨hl, hd, Int.dvd_refl l, by simp⟩
|p :: L, l, h, hl, hd => by
  obtain ⟨h1, h2⟩ := h p (by simp)
  obtain ⟨k1, k2, k3, k4⟩ := cmS_ok D l p hl h1 hd h2
  obtain ⟨m1, m2, m3, m4⟩ := cm_ok D L (cmS l p) (fun q hq => h q (by simp [hq])) k1 k2
  refine ⟨m1, m2, Int.dvd_trans k3 m3, fun q hq => ?_⟩
  rcases List.mem_cons.1 hq with e|e
  ·rw [e];exact Int.dvd_trans k4 m3
  ·exact m4 q e
def nvStep (c : Int) (f : Nat) (v : List Int) (p : List Int × Nat) : List Int := v.set p.2 (-(at0 p.1 f) * (c / at0 p.1 p.2))
def nvOf (n : Nat) (c : Int) (f : Nat) (L : List (List Int × Nat)) : List Int := L.foldl (nvStep c f) ((List.replicate n 0).set f c)
theorem nvStep_len (c : Int) (f : Nat) : ∀ (L : List (List Int × Nat)) (v : List Int), (L.foldl (nvStep c f) v).length = v.length
 | [], _ => rfl
 | p :: L, v => by
  rw [List.foldl_cons, nvStep_len c f L]
  simp [nvStep]
theorem nv_dot (n : Nat) (c : Int) (f : Nat) (w : V) : ∀ (L : List (List Int × Nat)) (v : List Int), (L.map (·.2)).Nodup → v.length = n → (∀ p ∈ L, p.2 < n ∧ at0 v p.2 = 0) → dotN (at0 (L.foldl (nvStep c f) v)) w n = dotN (at0 v) w n - sumOver (fun p => c / at0 p.1 p.2 * w p.2 * at0 p.1 f) L
|[], v, _, _, _ => by simp [sumOver]
|p :: L, v, hn, hv, h => by
  obtain ⟨h1, h2⟩ := h p (by simp)
  rw [List.map_cons] at hn
  have hn' := List.nodup_cons.1 hn
  have hs := at0_set v p.2 (-(at0 p.1 f) * (c / at0 p.1 p.2)) (by omega)
  rw [List.foldl_cons, nv_dot n c f w L _ hn'.2 (by simp [nvStep, hv]) fun q hq => ?_]
  ·rw [dotN_set (at0 v) (at0 (nvStep c f v p)) w p.2 _ hs n, if_pos h1, h2]
   simp only [sumOver]
   have : (-(at0 p.1 f) * (c / at0 p.1 p.2) - 0) * w p.2 = -(c / at0 p.1 p.2 * w p.2 * at0 p.1 f) := by
    rw [Int.sub_zero, Int.neg_mul, Int.neg_mul, Int.mul_comm (at0 p.1 f), Int.mul_right_comm]
   rw [this]
   omega
  ·obtain ⟨k1, k2⟩ := h q (by simp [hq])
   refine ⟨k1, ?_⟩
   show at0 (v.set p.2 _) q.2 = 0
   rw [hs, if_neg fun e => hn'.1 (by rw [← e];exact List.mem_map_of_mem hq), k2]
theorem at0_rep (n : Nat) (j : Nat) : at0 (List.replicate n 0) j = 0 := by
 unfold at0
 rw [List.getD_eq_getElem?_getD, List.getElem?_replicate]
 split <;> rfl
theorem nv_res (n : Nat) (c : Int) (f : Nat) (L : List (List Int × Nat)) (w : V) (hn : (L.map (·.2)).Nodup) (hf : f < n) (hL : ∀ p ∈ L, p.2 < n) (hfL : ¬ f ∈ L.map (·.2)) : dotN (at0 (nvOf n c f L)) w n = res c L w f := by
 unfold nvOf
 have hs := at0_set (List.replicate n 0) f c (by simpa using hf)
 rw [nv_dot n c f w L _ hn (by simp) fun p hp => ⟨hL p hp, ?_⟩]
 ·rw [dotN_set (at0 (List.replicate n 0)) _ w f c hs n, if_pos hf, at0_rep, dotN_zero n fun j _ => Or.inl (at0_rep n j)]
  unfold res
  simp
 ·rw [hs, if_neg fun e => hfL (by rw [← e]; exact List.mem_map_of_mem hp), at0_rep]
theorem nv_at (c : Int) (f : Nat) : ∀ (L : List (List Int × Nat)) (v : List Int) (B : Nat), (∀ p ∈ L, p.2 < v.length ∧ (c / at0 p.1 p.2 * at0 p.1 f).natAbs ≤ B) → (∀ j, (at0 v j).natAbs ≤ B) → ∀ j, (at0 (L.foldl (nvStep c f) v) j).natAbs ≤ B
|[], v, B, _, h => h
|p :: L, v, B, hL, h => by
  obtain ⟨h1, h2⟩ := hL p (by simp)
  refine nv_at c f L _ B (fun q hq => ?_) fun j => ?_
  ·have := hL q (by simp [hq])
   simpa [nvStep] using this
  ·show (at0 (v.set p.2 _) j).natAbs ≤ B
   rw [at0_set v p.2 _ h1]
   split
   ·rw [Int.neg_mul, Int.natAbs_neg, Int.mul_comm];exact h2
   ·exact h j
theorem sumOver_append {α : Type} (g : α → Int) : ∀ (l m : List α), sumOver g (l ++ m) = sumOver g l + sumOver g m
 | [], m => by simp [sumOver]
 | a :: l, m => by
  simp only [List.cons_append, sumOver]
  rw [sumOver_append g l m]
  omega
theorem sumOver_reverse {α : Type} (g : α → Int) : ∀ l : List α, sumOver g l.reverse = sumOver g l
 | [] => rfl
 | a :: l => by
  rw [List.reverse_cons, sumOver_append, sumOver_reverse g l]
  simp only [sumOver]
  omega
theorem res_reverse (c : Int) (P : List (List Int × Nat)) (w : V) (j : Nat) : res c P.reverse w j = res c P w j := by
 unfold res
 rw [sumOver_reverse]
theorem fp5_le : ∀ n, n < 6 → fct n * 2 ^ n ≤ 3840 ∧ fct n * 2 ^ (n - 1) * 1000 ≤ 1920000 ∧ fct n * 2 ^ (n - 1) * 2 ≤ 3840 := by decide
theorem small_piv5 {S : V → Prop} {c m : Nat} {P : List (List Int × Nat)} {Q : List (List Int)} (h : Red S c P Q) (hb : ∀ o, S o → ∀ j, (o j).natAbs ≤ bnd m j) (hc : c ≤ m) (hm : P.length < 6) :
  ∃ D : Int, 0 < D ∧ D ≤ 3840 ∧ ∀ p ∈ P, ∃ e : Int, 0 < e ∧ D = at0 p.1 p.2 * e ∧ (∀ j, j < m → (e * at0 p.1 j).natAbs ≤ 3840) ∧ ∀ j, (e * at0 p.1 j).natAbs ≤ 1920000 := by
 obtain ⟨D, hD, hDb, hh⟩ := h.st.bound_piv (bnd m) hb h.prim
 have hk : ∀ k ∈ P.map (·.2), k < m := fun k hk => by
  obtain ⟨p, hp, rfl⟩ := List.mem_map.1 hk
  have := h.ncol p hp
  omega
 rw [prod_small m _ hk, List.length_map] at hDb
 have h2 := fp5_le P.length hm
 refine ⟨D.natAbs, by omega, by omega, fun p hp => ?_⟩
 obtain ⟨e, he, hj⟩ := hh p hp
 have hpos := h.pos p hp
 have hnn : (e.natAbs : Int) * at0 p.1 p.2 = D.natAbs := by
  rw [he, Int.natAbs_mul, Int.natCast_mul, Int.mul_comm]
  congr 1
  omega
 have hj' : ∀ j, ((e.natAbs : Int) * at0 p.1 j).natAbs ≤ fct P.length * (bnd m j * 2 ^ (P.length - 1)) := fun j => by
  have := hj j
  rw [prod_small m _ fun k h => hk k (List.mem_of_mem_erase h), List.length_erase_of_mem (List.mem_map_of_mem hp), List.length_map] at this
  rw [Int.natAbs_mul] at this ⊢
  simpa using this
 have he0 : e ≠ 0 := fun e0 => hD (by rw [he, e0, Int.mul_zero])
 refine ⟨e.natAbs, by omega, by rw [← hnn, Int.mul_comm], fun j hjm => ?_, fun j => ?_⟩
 ·have h3 := hj' j
  have h4 : bnd m j = 2 := by unfold bnd;rw [if_pos hjm]
  rw [h4] at h3
  have h5 : fct P.length * (2 * 2 ^ (P.length - 1)) = fct P.length * 2 ^ (P.length - 1) * 2 := by rw [Nat.mul_comm 2, Nat.mul_assoc]
  omega
 ·have h3 := hj' j
  have h4 : fct P.length * (bnd m j * 2 ^ (P.length - 1)) ≤ fct P.length * (1000 * 2 ^ (P.length - 1)) := Nat.mul_le_mul_left _ (Nat.mul_le_mul_right _ (bnd_le m j))
  have h5 : fct P.length * (1000 * 2 ^ (P.length - 1)) = fct P.length * 2 ^ (P.length - 1) * 1000 := by rw [Nat.mul_comm 1000, Nat.mul_assoc]
  omega
structure NvOk (n B : Nat) (D : Int) (p : List Int × Nat) : Prop where
 len : p.1.length = n
 col : p.2 < n
 ld : ld p.1 = p.2
 pos : 0 < at0 p.1 p.2
 ex : ∃ e : Int, 0 < e ∧ D = at0 p.1 p.2 * e ∧ ∀ j, j < n → (e * at0 p.1 j).natAbs ≤ B
theorem NvOk.dvd {n B : Nat} {D : Int} {p : List Int × Nat} (h : NvOk n B D p) : at0 p.1 p.2 ∣ D := by
 obtain ⟨e, _, h, _⟩ := h.ex
 exact ⟨e, h⟩
theorem NvOk.quot {n B : Nat} {D c : Int} {p : List Int × Nat} (h : NvOk n B D p) (hD : 0 < D) (hc : 0 < c) (h1 : c ∣ D) (h2 : at0 p.1 p.2 ∣ c) (j : Nat) (hj : j < n) : (c / at0 p.1 p.2 * at0 p.1 j).natAbs ≤ B := by
 obtain ⟨e, he, hDe, hb⟩ := h.ex
 obtain ⟨u, hu⟩ := h1
 obtain ⟨v, hv⟩ := h2
 have hp := h.pos
 have hu0 : 0 < u := by
  rcases Int.lt_or_le 0 u with h | h
  ·exact h
  ·have : c * u ≤ 0 := Int.mul_nonpos_of_nonneg_of_nonpos (by omega) h
   omega
 have e1 : e = v * u := by
  have : at0 p.1 p.2 * e = at0 p.1 p.2 * (v * u) := by rw [← hDe, hu, hv, Int.mul_assoc]
  exact Int.eq_of_mul_eq_mul_left (by omega) this
 have e2 : c / at0 p.1 p.2 = v := by rw [hv]; exact Int.mul_ediv_cancel_left _ (by omega)
 have := hb j hj
 rw [e1, Int.mul_right_comm, Int.natAbs_mul] at this
 rw [e2]
 have h3 : (v * at0 p.1 j).natAbs * 1 ≤ (v * at0 p.1 j).natAbs * u.natAbs := Nat.mul_le_mul_left _ (by omega)
 omega
theorem dotI_l0 (a b : List Int) (n : Nat) (ha : a.length = n) (hb : b.length = n) (hn : n ≤ 1000) (hs : ∀ j, j < n → (at0 a j * at0 b j).natAbs ≤ 1099511627776) (d : Nat) : ∀ i : Nat, n - i = d → i ≤ n → Ev (fun k => impl_DotOf.l0 k a b (dotN (at0 a) (at0 b) i) (n : Int) (i : Int)) (dotN (at0 a) (at0 b) n) := by
 induction d with
|zero =>
  intro i hd hi
  have e : i = n := by omega
  subst e
  refine Ev.step (f := fun _ => some (dotN (at0 a) (at0 b) i)) (fun k => ?_) (Ev.now _)
  simp only [impl_DotOf.l0]
  rw [if_neg (by omega)]
|succ d ih =>
  intro i hd hi
  have h1 := dotN_bound (at0 a) (at0 b) 1099511627776 i fun j hj => hs j (by omega)
  have h2 := hs i (by omega)
  have h3 : i * 1099511627776 ≤ 1000 * 1099511627776 := Nat.mul_le_mul_right _ (by omega)
  refine Ev.step (f := fun k => impl_DotOf.l0 k a b (dotN (at0 a) (at0 b) (i + 1)) (n : Int) ((i + 1 : Nat) : Int)) (fun k => ?_) (ih (i + 1) (by omega) (by omega))
  simp only [impl_DotOf.l0]
  rw [if_pos (by omega), if_pos (by omega), if_pos (by omega), if_pos (by omega), at0_rd, at0_rd, wrap_id (x := (i : Int) + 1) (by omega) (by omega), wrap_id (x := at0 a i * at0 b i) (by omega) (by omega), wrap_id (by omega) (by omega)]
  rfl
theorem dotI_ev (a b : List Int) (n : Nat) (ha : a.length = n) (hb : b.length = n) (hn : n ≤ 1000) (hs : ∀ j, j < n → (at0 a j * at0 b j).natAbs ≤ 1099511627776) : Ev (fun k => impl_DotOf.f k a b) (dotN (at0 a) (at0 b) n) := by
 unfold impl_DotOf.f
 have e : mn (a.length : Int) (b.length : Int) = (n : Int) := by rw [ha, hb]; unfold mn; split <;> rfl
 rw [e]
 exact dotI_l0 a b n ha hb hn hs n 0 (by omega) (by omega)
theorem nullI_l2 (row : List Int) (n : Nat) (c : Int) (bg : List Bool) (f : Nat) (L : List (List Int × Nat)) (r : List Int) {B : Nat} {D : Int} (hB : B ≤ 46080) (hn : n ≤ 1000) (hl : L.length ≤ 1000) (hD : 0 < D) (hL : ∀ p ∈ L, NvOk n B D p) (hc : 0 < c) (hcD : c ∣ D) (hpc : ∀ p ∈ L, at0 p.1 p.2 ∣ c) (hcs : c ≤ 46080) (hf : f < n)
  (v0 : List Int) (hend : ∀ v, v = L.foldl (nvStep c f) v0 → Ev (fun k => (impl_DotOf.f k v row).bind fun t => if t = 0 then impl_NullVector.l1 k row (n : Int) (L.map (·.1)) c bg (n : Int) ((f + 1 : Nat) : Int) else some v) r) (d : Nat) : ∀ (i : Nat) (v : List Int), L.length - i = d → i ≤ L.length → v.length = n → (L.drop i).foldl (nvStep c f) v = L.foldl (nvStep c f) v0 →
  Ev (fun k => impl_NullVector.l2 k row (n : Int) (L.map (·.1)) c bg (f : Int) v (n : Int) (f : Int) (L.map (·.1)) (L.length : Int) (i : Int)) r := by
 induction d with
|zero =>
  intro i v hd hi hv hq
  rw [List.drop_eq_nil_of_le (by omega)] at hq
  refine Ev.step (fun k => ?_) (hend v hq)
  simp only [impl_NullVector.l2]
  rw [if_neg (by omega), wrap_id (by omega) (by omega)]
  rfl
|succ d ih =>
  intro i v hd hi hv hq
  have h : i < L.length := by omega
  have hpm := List.getElem_mem h
  have hp := hL _ hpm
  have h1 := hp.len;have h2 := hp.col;have h3 := hp.ld;have h4 := hp.pos
  have hlead := leadI_ev L[i].1 (by omega)
  rw [if_pos (by omega), h3] at hlead
  have hrow : rd_L1 (L.map (·.1)) (i : Int) = L[i].1 := by
   rw [rdL_nat _ i (by simpa using h)]
   simp
  have hqt := hp.quot hD hc hcD (hpc _ hpm) f hf
  have hqp := hp.quot hD hc hcD (hpc _ hpm) L[i].2 h2
  have hdv : c / at0 L[i].1 L[i].2 * at0 L[i].1 L[i].2 = c := Int.ediv_mul_cancel (hpc _ hpm)
  have hcq : 0 ≤ c / at0 L[i].1 L[i].2 := Int.ediv_nonneg (by omega) (by omega)
  have hcq2 : c / at0 L[i].1 L[i].2 ≤ c := Int.ediv_le_self _ (by omega)
  obtain ⟨e0, he0, _, heb⟩ := hp.ex
  have hxf : (at0 L[i].1 f).natAbs ≤ 46080 := by
   have := heb f hf
   rw [Int.natAbs_mul] at this
   have h5 : 1 * (at0 L[i].1 f).natAbs ≤ e0.natAbs * (at0 L[i].1 f).natAbs := Nat.mul_le_mul_right _ (by omega)
   omega
  rw [List.drop_eq_getElem_cons h, List.foldl_cons] at hq
  refine Ev.step (f := fun k => (impl_lead.f k L[i].1).bind fun t => if 0 ≤ (f : Int) then (if (f : Int) < (L[i].1.length : Int) then (if 0 ≤ t then (if t < (L[i].1.length : Int) then (if (rd L[i].1 t) = 0 then none else (if t < (v.length : Int) then impl_NullVector.l2 k row (n : Int) (L.map (·.1)) c bg (f : Int) (v.set t.toNat (wrap64 ((wrap64 (-(rd L[i].1 (f : Int)))) * (wrap64 (Int.tdiv c (rd L[i].1 t)))))) (n : Int) (f : Int) (L.map (·.1)) (L.length : Int) ((i + 1 : Nat) : Int) else none)) else none) else none) else none) else none) (fun k => ?_) (Ev.bind hlead ?_)
  ·simp only [impl_NullVector.l2]
   rw [if_pos (by omega), if_pos (by omega), if_pos (by simpa using h), hrow, wrap_id (x := (i : Int) + 1) (by omega) (by omega)]
   rfl
  ·have e1 : wrap64 ((wrap64 (-(at0 L[i].1 f))) * (wrap64 (Int.tdiv c (at0 L[i].1 L[i].2)))) = -(at0 L[i].1 f) * (c / at0 L[i].1 L[i].2) := by
    rw [Int.tdiv_eq_ediv_of_nonneg (by omega), wrap_id (x := -(at0 L[i].1 f)) (by omega) (by omega), wrap_id (x := c / at0 L[i].1 L[i].2) (by omega) (by omega)]
    rw [show -(at0 L[i].1 f) * (c / at0 L[i].1 L[i].2) = -(c / at0 L[i].1 L[i].2 * at0 L[i].1 f) by rw [Int.neg_mul, Int.mul_comm]]
    exact wrap_id (by omega) (by omega)
   simp only [if_pos (show (0 : Int) ≤ (f : Int) by omega), if_pos (show (f : Int) < (L[i].1.length : Int) by omega), if_pos (show (0 : Int) ≤ (L[i].2 : Int) by omega), if_pos (show (L[i].2 : Int) < (L[i].1.length : Int) by omega), at0_rd, if_neg (show ¬ at0 L[i].1 L[i].2 = 0 by omega), if_pos (show (L[i].2 : Int) < (v.length : Int) by omega), Int.toNat_natCast, e1]
   exact ih (i + 1) _ (by omega) (by omega) (by simpa using hv) hq
def nvFrom (n : Nat) (c : Int) (L : List (List Int × Nat)) (row : List Int) : Nat → Nat → List Int
 | 0, _ => []
 | d + 1, f => if f ∈ L.map (·.2) then nvFrom n c L row d (f + 1) else if dotN (at0 (nvOf n c f L)) (at0 row) n = 0 then nvFrom n c L row d (f + 1) else nvOf n c f L
structure NvAll (n B : Nat) (D c : Int) (L : List (List Int × Nat)) (row : List Int) : Prop where
 hB : B ≤ 46080
 hn : n ≤ 1000
 hl : L.length ≤ 1000
 hD : 0 < D
 hL : ∀ p ∈ L, NvOk n B D p
 hc : 0 < c
 hcD : c ∣ D
 hpc : ∀ p ∈ L, at0 p.1 p.2 ∣ c
 hcs : c ≤ B
 hr : row.length = n
 hrs : ∀ j, (at0 row j).natAbs ≤ 1000
theorem nv_small {n B : Nat} {D c : Int} {L : List (List Int × Nat)} {row : List Int} (h : NvAll n B D c L row) (f : Nat) (hf : f < n) : (nvOf n c f L).length = n ∧ ∀ j, (at0 (nvOf n c f L) j).natAbs ≤ B := by
 refine ⟨by unfold nvOf;rw [nvStep_len];simp, ?_⟩
 unfold nvOf
 refine nv_at c f L _ B (fun p hp => ⟨by simpa using (h.hL p hp).col, (h.hL p hp).quot h.hD h.hc h.hcD (h.hpc p hp) f hf⟩) fun j => ?_
 have h1 := h.hc;have h2 := h.hcs
 rw [at0_set _ f c (by simpa using hf), at0_rep]
 split
 ·omega
 ·exact Nat.zero_le _
theorem nv_dotI {n B : Nat} {D c : Int} {L : List (List Int × Nat)} {row : List Int} (h : NvAll n B D c L row) (f : Nat) (hf : f < n) : ∀ j, j < n → (at0 (nvOf n c f L) j * at0 row j).natAbs ≤ 1099511627776 := by
 intro j _
 have h1 := (nv_small h f hf).2 j
 have h2 := h.hrs j
 have h3 := h.hB
 rw [Int.natAbs_mul]
 exact Nat.le_trans (Nat.mul_le_mul (Nat.le_trans h1 h3) h2) (by omega)
theorem nullI_l1 {n B : Nat} {D c : Int} {L : List (List Int × Nat)} {row : List Int} (h : NvAll n B D c L row) (bg : List Bool) (hbl : bg.length = n) (hbg : ∀ j, j < n → bg.getD j false = decide (j ∈ L.map (·.2))) (d : Nat) : ∀ f : Nat, n - f = d → f ≤ n → Ev (fun k => impl_NullVector.l1 k row (n : Int) (L.map (·.1)) c bg (n : Int) (f : Int)) (nvFrom n c L row d f) := by
 have hn := h.hn
 induction d with
|zero =>
  intro f hd hf
  refine Ev.step (f := fun _ => some []) (fun k => ?_) (Ev.now _)
  simp only [impl_NullVector.l1]
  rw [if_neg (by omega)]
|succ d ih =>
  intro f hd hf
  have hfn : f < n := by omega
  have hrd : rdOf false bg (f : Int) = decide (f ∈ L.map (·.2)) := by
   unfold rdOf
   rw [Int.toNat_natCast]
   exact hbg f hfn
  by_cases hm : f ∈ L.map (·.2)
  ·unfold nvFrom
   rw [if_pos hm]
   refine Ev.step (fun k => ?_) (ih (f + 1) (by omega) (by omega))
   simp only [impl_NullVector.l1]
   rw [if_pos (by omega), if_pos (by omega), if_pos (by omega), hrd, decide_eq_true hm, if_pos rfl, wrap_id (by omega) (by omega)]
   rfl
  ·unfold nvFrom
   rw [if_neg hm]
   have hs := nv_small h f hfn
   have hl2 := nullI_l2 row n c bg f L (if dotN (at0 (nvOf n c f L)) (at0 row) n = 0 then nvFrom n c L row d (f + 1) else nvOf n c f L) h.hB hn h.hl h.hD h.hL h.hc h.hcD h.hpc (by have := h.hcs;have := h.hB;omega) hfn ((List.replicate n 0).set f c) (fun v hv => ?_) L.length 0 ((List.replicate n 0).set f c) (by omega) (by omega) (by simp) (by rw [List.drop_zero])
   ·refine Ev.step (fun k => ?_) hl2
    simp only [impl_NullVector.l1]
    rw [if_pos (by omega), if_pos (by omega), if_pos (by omega), hrd, decide_eq_false hm, if_neg (by decide), if_pos (by omega), if_pos (by rw [Int.toNat_natCast];omega)]
    simp only [Option.bind_some, Int.toNat_natCast, List.length_replicate, if_pos (show (f : Int) < (n : Int) by omega), List.length_map]
    rfl
   ·have e : v = nvOf n c f L := hv
    subst e
    refine Ev.bind (dotI_ev _ row n hs.1 h.hr hn (nv_dotI h f hfn)) ?_
    by_cases h0 : dotN (at0 (nvOf n c f L)) (at0 row) n = 0
    ·simp only [if_pos h0]
     exact ih (f + 1) (by omega) (by omega)
    ·simp only [if_neg h0]
     exact Ev.now _
def bgStep (b : List Bool) (p : List Int × Nat) : List Bool := b.set p.2 true
theorem bg_len : ∀ (L : List (List Int × Nat)) (b : List Bool), (L.foldl bgStep b).length = b.length
 | [], _ => rfl
 | p :: L, b => by
  rw [List.foldl_cons, bg_len L]
  simp [bgStep]
theorem bg_at : ∀ (L : List (List Int × Nat)) (b : List Bool) (j : Nat), j < b.length → (L.foldl bgStep b).getD j false = (b.getD j false || decide (j ∈ L.map (·.2)))
 | [], b, j, _ => by simp
 | p :: L, b, j, hj => by
  rw [List.foldl_cons, bg_at L _ j (by simpa [bgStep] using hj)]
  unfold bgStep
  rw [List.getD_eq_getElem?_getD, List.getElem?_set, List.getD_eq_getElem?_getD]
  by_cases e : p.2 = j
  ·rw [if_pos e, if_pos (by omega)]
   simp [e]
  ·rw [if_neg e]
   have : (j ∈ (p :: L).map (·.2)) ↔ (j ∈ L.map (·.2)) := by
    rw [List.map_cons, List.mem_cons]
    exact ⟨fun h => h.resolve_left fun h => e h.symm, Or.inr⟩
   rw [decide_eq_decide.2 this]
theorem nullI_l0 (row : List Int) (n B : Nat) (D : Int) (L : List (List Int × Nat)) (r : List Int) (hB : B ≤ 46080) (hn : n ≤ 1000) (hl : L.length ≤ 1000) (hD : 0 < D) (hDB : D ≤ 46080) (hL : ∀ p ∈ L, NvOk n B D p) (hend : Ev (fun k => impl_NullVector.l1 k row (n : Int) (L.map (·.1)) (L.foldl cmS 1) (L.foldl bgStep (List.replicate n false)) (n : Int) 0) r) (d : Nat) :
  ∀ (i : Nat) (c : Int) (b : List Bool), L.length - i = d → i ≤ L.length → b.length = n → 0 < c → c ∣ D → (L.drop i).foldl cmS c = L.foldl cmS 1 → (L.drop i).foldl bgStep b = L.foldl bgStep (List.replicate n false) → Ev (fun k => impl_NullVector.l0 k row (n : Int) (L.map (·.1)) c b (L.map (·.1)) (L.length : Int) (i : Int)) r := by
 induction d with
|zero =>
  intro i c b hd hi hb hc hcD h1 h2
  rw [List.drop_eq_nil_of_le (by omega)] at h1 h2
  rw [show c = L.foldl cmS 1 from h1, show b = L.foldl bgStep (List.replicate n false) from h2]
  refine Ev.step (fun k => ?_) hend
  simp only [impl_NullVector.l0]
  rw [if_neg (by omega)]
|succ d ih =>
  intro i c b hd hi hb hc hcD h1 h2
  have h : i < L.length := by omega
  have hpm := List.getElem_mem h
  have hp := hL _ hpm
  have k1 := hp.len;have k2 := hp.col;have k3 := hp.ld;have k4 := hp.pos
  have hlead := leadI_ev L[i].1 (by omega)
  rw [if_pos (by omega), k3] at hlead
  have hrow : rd_L1 (L.map (·.1)) (i : Int) = L[i].1 := by
   rw [rdL_nat _ i (by simpa using h)]
   simp
  have hcl : c ≤ D := Int.le_of_dvd hD hcD
  have hpl : at0 L[i].1 L[i].2 ≤ D := Int.le_of_dvd hD hp.dvd
  obtain ⟨m1, m2, m3, m4⟩ := cmS_ok D c L[i] hc k4 hcD hp.dvd
  have hml : cmS c L[i] ≤ D := Int.le_of_dvd hD m2
  have hg := gcdI_ev c (at0 L[i].1 L[i].2) (by omega) (by omega) (by omega) (by omega)
  have hgp : 0 < Int.gcd c (at0 L[i].1 L[i].2) := by
   rcases Nat.eq_zero_or_pos (Int.gcd c (at0 L[i].1 L[i].2)) with h|h
   ·have := (Int.gcd_eq_zero_iff.1 h).1
    omega
   ·exact h
  have hq0 : 0 ≤ c / ((Int.gcd c (at0 L[i].1 L[i].2) : Nat) : Int) := Int.ediv_nonneg (by omega) (by omega)
  have hq1 : c / ((Int.gcd c (at0 L[i].1 L[i].2) : Nat) : Int) ≤ c := Int.ediv_le_self _ (by omega)
  rw [List.drop_eq_getElem_cons h, List.foldl_cons] at h1 h2
  refine Ev.step (f := fun k => (impl_lead.f k L[i].1).bind fun t => if 0 ≤ t then (if t < (b.length : Int) then (if t < (L[i].1.length : Int) then ((impl_gcd.f k c (rd L[i].1 t)).bind fun g => if g = 0 then none else impl_NullVector.l0 k row (n : Int) (L.map (·.1)) (wrap64 ((wrap64 (Int.tdiv c g)) * (rd L[i].1 t))) (b.set t.toNat true) (L.map (·.1)) (L.length : Int) ((i + 1 : Nat) : Int)) else none) else none) else none) (fun k => ?_) (Ev.bind hlead ?_)
  ·simp only [impl_NullVector.l0]
   rw [if_pos (by omega), if_pos (by omega), if_pos (by simpa using h), hrow, wrap_id (x := (i : Int) + 1) (by omega) (by omega)]
   rfl
  ·simp only [if_pos (show (0 : Int) ≤ (L[i].2 : Int) by omega), if_pos (show (L[i].2 : Int) < (L[i].1.length : Int) by omega), at0_rd, if_pos (show (L[i].2 : Int) < (b.length : Int) by omega), Int.toNat_natCast]
   refine Ev.bind hg ?_
   have e1 : wrap64 (wrap64 (Int.tdiv c ((Int.gcd c (at0 L[i].1 L[i].2) : Nat) : Int)) * at0 L[i].1 L[i].2) = cmS c L[i] := by
    rw [Int.tdiv_eq_ediv_of_nonneg (by omega), wrap_id (x := c / _) (by omega) (by omega)]
    exact wrap_id (show (-9223372036854775808 : Int) ≤ cmS c L[i] by omega) (show cmS c L[i] < 9223372036854775808 by omega)
   simp only [if_neg (show ¬ ((Int.gcd c (at0 L[i].1 L[i].2) : Nat) : Int) = 0 by omega), e1]
   exact ih (i + 1) _ _ (by omega) (by omega) (by simpa using hb) m1 m2 h1 h2
theorem piv_all {S : V → Prop} {n : Nat} {P : List (List Int × Nat)} {Q : List (List Int)} (h : Red S n P Q) (hl : n ≤ P.length) : ∀ j, j < n → j ∈ P.map (·.2) := by
 have e := sorted_sub (P.map (·.2)) (List.range n).reverse h.sorted (by rw [List.pairwise_reverse]; exact List.pairwise_lt_range) (fun k hk => by
  obtain ⟨p, hp, rfl⟩ := List.mem_map.1 hk
  simpa using h.ncol p hp) (by simpa using hl)
 intro j hj
 rw [e]
 simpa using hj
theorem full_span {m : List (List Int)} {row : List Int} {n : Nat} {P : List (List Int × Nat)} {Q : List (List Int)} (h : Red (RowSp m) n P Q) (hP : ∀ p ∈ P, p.1.length = n) (hr : row.length = n) (hl : n ≤ P.length) : Sp (RowSp m) (at0 row) := by
 refine sp_of_res (P := P) (common_ne h.st.piv.2.1) h.st.inP fun j => ?_
 rcases Nat.lt_or_ge j n with hj|hj
 ·obtain ⟨p, hp, e⟩ := List.mem_map.1 (piv_all h hl j hj)
  rw [← e]
  exact res_piv h.st.piv (common P) dvd_common (at0 row) p hp
 ·unfold res
  rw [at0_out (by rw [hr];exact hj), sumOver_zero _ _ fun q hq => by
   rw [show at0 q.1 j = 0 from at0_out (by rw [hP q hq];exact hj)];simp]
  simp
theorem nvFrom_ok (n : Nat) (c : Int) (L : List (List Int × Nat)) (row : List Int) (f0 : Nat) (d : Nat) : ∀ f : Nat, f + d = n → f ≤ f0 → f0 < n → ¬ f0 ∈ L.map (·.2) → dotN (at0 (nvOf n c f0 L)) (at0 row) n ≠ 0 → ∃ g, g < n ∧ ¬ g ∈ L.map (·.2) ∧ dotN (at0 (nvOf n c g L)) (at0 row) n ≠ 0 ∧ nvFrom n c L row d f = nvOf n c g L := by
 induction d with
|zero => intro f h1 h2 h3;omega
|succ d ih =>
  intro f h1 h2 h3 h4 h5
  unfold nvFrom
  by_cases hm : f ∈ L.map (·.2)
  ·rw [if_pos hm]
   refine ih (f + 1) (by omega) ?_ h3 h4 h5
   rcases Nat.lt_or_ge f f0 with h|h
   ·exact h
   ·have : f = f0 := by omega
    subst this
    exact absurd hm h4
  ·rw [if_neg hm]
   by_cases h0 : dotN (at0 (nvOf n c f L)) (at0 row) n = 0
   ·rw [if_pos h0]
    refine ih (f + 1) (by omega) ?_ h3 h4 h5
    rcases Nat.lt_or_ge f f0 with h|h
    ·exact h
    ·have : f = f0 := by omega
     subst this
     exact absurd h0 h5
   ·rw [if_neg h0]
    exact ⟨f, by omega, hm, h0, rfl⟩
structure NullOf (m : List (List Int)) (row v : List Int) : Prop where
 len : v.length = row.length
 zero : ∀ r ∈ m, dotN (at0 v) (at0 r) row.length = 0
 one : dotN (at0 v) (at0 row) row.length ≠ 0
 small : ∀ j, (at0 v j).natAbs ≤ 3840
theorem null_impl (m : List (List Int)) (row : List Int) (hm : m.length ≤ 16777216) (hr : ∀ x ∈ m, x.length ≤ 16777216) (hl : row.length ≤ 16777216) : ∃ v : List Int, Ev (fun k => impl_NullVector.f k m row) v ∧ v.length ≤ 1000 ∧
  (bothB m row = false → v = []) ∧ (Sp (RowSp m) (at0 row) → v = []) ∧ (bothB m row = true → ¬ Sp (RowSp m) (at0 row) → NullOf m row v ∧ ∃ n : Nat, row.length = n ∧ Okm m n n) := by
 have h1 := implMat_ev m hm hr (row.length : Int)
 have h2 := implMat_ev [row] (by simp) (fun x hx => by rw [List.mem_singleton.1 hx];exact hl) (row.length : Int)
 have hjI : Ev (fun k => impl_NullVector.j0 k m row (row.length : Int) true) [] := Ev.step (f := fun _ => some []) (fun k => by simp only [impl_NullVector.j0];rw [if_pos trivial]) (Ev.now _)
 cases hb : bothB m row with
|false =>
  refine ⟨[], ?_, by simp, by simp, by simp, by simp⟩
  ·unfold impl_NullVector.f
   refine Ev.bind h1 ?_
   cases e1 : isMat m (row.length : Int) with
  |false =>
    simp only [Bool.false_eq_true, if_false]
    exact hjI
  |true =>
    simp only [if_true]
    refine Ev.bind h2 ?_
    have e2 : isMat [row] (row.length : Int) = false := by simpa [bothB, e1] using hb
    rw [e2]
    simp only [Bool.false_eq_true, if_false]
    exact hjI
|true =>
  have hb1 : isMat m (row.length : Int) = true ∧ isMat [row] (row.length : Int) = true := by simpa [bothB] using hb
  obtain ⟨b, bI, bi, _⟩ := implSpan_ev m row hm hr hl
  have hbi := bi hb
  have key : ∀ v, Ev (fun k => impl_NullVector.j0 k m row (row.length : Int) b) v → Ev (fun k => impl_NullVector.f k m row) v := fun v k1 => by
   ·unfold impl_NullVector.f
    rw [hb1.1] at h1
    rw [hb1.2] at h2
    refine Ev.bind h1 ?_
    simp only [if_true]
    refine Ev.bind h2 ?_
    simp only [if_true]
    exact Ev.bind bI k1
  cases b with
 |true =>
   have k1 := key [] hjI
   exact ⟨[], k1, by simp, by simp, fun _ => rfl, fun _ h => absurd (hbi.1 rfl) h⟩
 |false =>
   have hns : ¬ Sp (RowSp m) (at0 row) := fun h => by have := hbi.2 h;cases this
   obtain ⟨n, hn, hok, _⟩ := okm_of_isMat hb1.1
   obtain ⟨P, Q, hR, hP, hQ, hevI⟩ := implRed hok
   have hz := red_rest hR (Nat.le_refl _) hQ
   obtain ⟨n2, hn2, hok2, _⟩ := okm_of_isMat hb1.2
   have e1 : row.length = n := by omega
   have e2 : n2 = n := by omega
   subst e2
   have hlen : P.length < n2 := by
    rcases Nat.lt_or_ge P.length n2 with h|h
    ·exact h
    ·exact absurd (full_span hR hP e1 h) hns
   have hle := hok.le6
   obtain ⟨D, hD, hD2, he⟩ := small_piv5 hR hok.start.1 (Nat.le_refl _) (by omega)
   have hrs := hok2.small row (by simp)
   have hL : ∀ p ∈ P.reverse, NvOk n2 3840 D p := fun p hp => by
    have hp' := List.mem_reverse.1 hp
    obtain ⟨e, k1, k2, k3, _⟩ := he p hp'
    have hpos := hR.pos p hp'
    exact ⟨hP p hp', hR.ncol p hp', ld_eq p.1 p.2 (hR.lead p hp') (by omega), hpos, e, k1, k2, k3⟩
   obtain ⟨c1, c2, _, c4⟩ := cm_ok D P.reverse 1 (fun p hp => ⟨(hL p hp).pos, (hL p hp).dvd⟩) (by omega) ⟨D, by omega⟩
   generalize hcg : P.reverse.foldl cmS 1 = c at c1 c2 c4
   have hall : NvAll n2 3840 D c P.reverse row := ⟨by omega, by omega, by rw [List.length_reverse];omega, hD, hL, c1, c2, c4, by have := Int.le_of_dvd hD c2;omega, e1, fun j => by
    have := hrs j
    have := bnd_le n2 j
    omega⟩
   have hmr : (P.map (·.1)).reverse = P.reverse.map (·.1) := by rw [List.map_reverse]
   rw [hmr] at hevI
   have k1 := key (nvFrom n2 c P.reverse row n2 0) (by
    refine Ev.step (f := fun k => (impl_reduceAny.f k m (n2 : Int)).bind fun t => impl_NullVector.l0 k row (n2 : Int) t 1 (List.replicate n2 false) t (t.length : Int) 0) (fun k => ?_) (Ev.bind hevI ?_)
    ·simp only [impl_NullVector.j0, e1]
     rw [if_neg (by decide)]
     simp only [if_pos (show (0 : Int) ≤ (n2 : Int) by omega), Int.toNat_natCast, if_pos (show n2 ≤ 281474976710656 by omega)]
    ·rw [List.length_map]
     refine nullI_l0 row n2 3840 D P.reverse _ (by omega) (by omega) (by rw [List.length_reverse];omega) hD (by omega) hL ?_ P.reverse.length 0 1 _ (by omega) (by omega) (by simp) (by omega) ⟨D, by omega⟩ (by rw [List.drop_zero]) (by rw [List.drop_zero])
     rw [hcg]
     refine nullI_l1 hall _ (by rw [bg_len];simp) (fun j hj => ?_) n2 0 (by omega) (by omega)
     rw [bg_at _ _ _ (by simpa using hj)]
     simp [List.getD_eq_getElem?_getD, List.getElem?_replicate, hj])
   have hnd : (P.reverse.map (·.2)).Nodup := by rw [List.map_reverse];unfold List.Nodup;rw [List.pairwise_reverse];exact hR.st.piv.1.imp fun h => Ne.symm h
   have hcp : ∀ p ∈ P, at0 p.1 p.2 ∣ c := fun p hp => c4 p (List.mem_reverse.2 hp)
   have hdot : ∀ g w, g < n2 → ¬ g ∈ P.reverse.map (·.2) → dotN (at0 (nvOf n2 c g P.reverse)) w n2 = res c P w g := fun g w hg hgm => by
    rw [nv_res n2 c g P.reverse w hnd hg (fun p hp => (hL p hp).col) hgm, res_reverse]
   have hex : ∃ f0, f0 < n2 ∧ ¬ f0 ∈ P.reverse.map (·.2) ∧ dotN (at0 (nvOf n2 c f0 P.reverse)) (at0 row) n2 ≠ 0 := by
    refine Classical.byContradiction fun hno => hns ?_
    refine sp_of_res (P := P) (L := c) (by omega) hR.st.inP fun j => ?_
    rcases Nat.lt_or_ge j n2 with hj|hj
    ·by_cases hjm : j ∈ P.reverse.map (·.2)
     ·obtain ⟨p, hp, e⟩ := List.mem_map.1 hjm
      rw [← e]
      exact res_piv hR.st.piv c hcp (at0 row) p (List.mem_reverse.1 hp)
     ·rw [← hdot j (at0 row) hj hjm]
      exact Classical.byContradiction fun h => hno ⟨j, hj, hjm, h⟩
    ·unfold res
     rw [at0_out (by rw [e1];exact hj), sumOver_zero _ _ fun q hq => by
      rw [show at0 q.1 j = 0 from at0_out (by rw [hP q hq];exact hj)];simp]
     simp
   obtain ⟨f0, q1, q2, q3⟩ := hex
   obtain ⟨g, g1, g2, g3, g4⟩ := nvFrom_ok n2 c P.reverse row f0 n2 0 (by omega) (by omega) q1 q2 q3
   rw [g4] at k1
   have hgs := nv_small hall g g1
   refine ⟨_, k1, by rw [hgs.1];omega, by simp, fun h => absurd h hns, fun _ _ => ⟨⟨by rw [hgs.1, e1], fun r hr => ?_, by rw [e1];exact g3, hgs.2⟩, n2, e1, hok⟩⟩
   rw [e1, hdot g _ g1 g2]
   exact res_span hR.st.piv c hcp (hR.span hz (Sp.of ⟨r, hr, rfl⟩)) g
theorem big_eq (l : List Int) : laws_big.f l = some (decide ((l.length : Int) > 1048576)) := rfl
theorem and255 (x : Int) : 0 ≤ Go.bits .and .i64 x 255 ∧ Go.bits .and .i64 x 255 ≤ 255 := by
 have h : (BitVec.ofInt IntKind.i64.bits x &&& BitVec.ofInt IntKind.i64.bits 255).toNat ≤ 255 := by
  rw [BitVec.toNat_and]
  exact Nat.le_trans Nat.and_le_right (by decide)
 have e : Go.bits .and .i64 x 255 = IntKind.i64.wrap ((BitVec.ofInt IntKind.i64.bits x &&& BitVec.ofInt IntKind.i64.bits 255).toNat : Int) := rfl
 rw [e, Go.IntKind.wrap_i64]
 omega
def Cur (b : List Int) (s : Int) : Prop := 0 ≤ s ∧ s ≤ b.length
theorem l1Byte_ok (b : List Int) (hb : b.length ≤ 1048576) (s h : Int) (hs : Cur b s) : ∃ x s' h', spec_l1Byte.f b s h = some (x, s', h') ∧ 0 ≤ x ∧ x ≤ 255 ∧ Cur b s' := by
 have hs0 := hs.1
 have hs1 := hs.2
 unfold spec_l1Byte.f
 by_cases c : s < (b.length : Int)
 ·rw [if_pos c, if_pos hs.1]
  have hw : wrap64 (s + 1) = s + 1 := wrap_id (by omega) (by omega)
  rw [hw]
  exact ⟨_, _, _, rfl, (and255 _).1, (and255 _).2, ⟨by omega, by omega⟩⟩
 ·rw [if_neg c]
  exact ⟨_, _, _, rfl, (and255 _).1, (and255 _).2, hs⟩
theorem l1Below_ok (b : List Int) (hb : b.length ≤ 1048576) (s h n : Int) (hs : Cur b s) : ∃ x s' h', spec_l1Below.f b s h n = some (x, s', h') ∧ 0 ≤ x ∧ (0 < n → x < n) ∧ Cur b s' := by
 unfold spec_l1Below.f
 by_cases c : n ≤ 0
 ·rw [if_pos c]; exact ⟨0, s, h, rfl, by omega, fun h => by omega, hs⟩
 ·rw [if_neg c]
  by_cases c2 : n ≤ 256
  ·rw [if_pos c2]
   obtain ⟨x, s', h', e, h0, h1, hc⟩ := l1Byte_ok b hb s h hs
   rw [e]
   simp only [Option.bind_some]
   rw [if_neg (by omega), Int.tmod_eq_emod_of_nonneg h0]
   exact ⟨_, _, _, rfl, Int.emod_nonneg _ (by omega), fun h => Int.emod_lt_of_pos _ h, hc⟩
  ·rw [if_neg c2]
   obtain ⟨x, s1, h1, e1, a0, a1, hc1⟩ := l1Byte_ok b hb s h hs
   obtain ⟨y, s2, h2, e2, b0, b1, hc2⟩ := l1Byte_ok b hb s1 h1 hc1
   obtain ⟨z, s3, h3, e3, d0, d1, hc3⟩ := l1Byte_ok b hb s2 h2 hc2
   simp only [e1, e2, e3, Option.bind_some]
   rw [if_neg (by omega), wrap_id (x := x * 65536) (by omega) (by omega), wrap_id (x := y * 256) (by omega) (by omega), wrap_id (x := x * 65536 + y * 256) (by omega) (by omega), wrap_id (x := x * 65536 + y * 256 + z) (by omega) (by omega), Int.tmod_eq_emod_of_nonneg (by omega)]
   exact ⟨_, _, _, rfl, Int.emod_nonneg _ (by omega), fun h => Int.emod_lt_of_pos _ h, hc3⟩
theorem l1New_l0 (l : List Int) (hl : l.length ≤ 1048576) (d : Nat) : ∀ (i : Nat) (h : Int), l.length - i = d → ∃ h', Ev (fun k => spec_l1New.l0 k l h (i : Int)) (l, 0, h') := by
 induction d with
|zero =>
  intro i h hd
  refine ⟨h, Ev.step (f := fun _ => some (l, 0, h)) (fun k => ?_) (Ev.now _)⟩
  simp only [spec_l1New.l0]
  rw [if_neg (by omega)]
|succ d ih =>
  intro i h hd
  by_cases c : (i : Int) < 4000
  ·obtain ⟨h', e⟩ := ih (i + 1) (Go.bits .and .i64 (wrap64 ((wrap64 ((wrap64 (h * 137)) + (wrap64 (rd l (i : Int))))) + 11)) 1073741823) (by omega)
   refine ⟨h', Ev.step (f := fun k => spec_l1New.l0 k l _ ((i + 1 : Nat) : Int)) (fun k => ?_) e⟩
   simp only [spec_l1New.l0]
   rw [if_pos (by omega), if_pos c, if_pos (by omega), wrap_id (x := (i : Int) + 1) (by omega) (by omega)]
   rfl
  ·refine ⟨h, Ev.step (f := fun _ => some (l, 0, h)) (fun k => ?_) (Ev.now _)⟩
   simp only [spec_l1New.l0]
   rw [if_pos (by omega), if_neg c]
theorem l1New_ev (l : List Int) (hl : l.length ≤ 1048576) : ∃ h', Ev (fun k => spec_l1New.f k l) (l, 0, h') := l1New_l0 l hl l.length 0 _ (by omega)
theorem cur0 (l : List Int) : Cur l 0 := ⟨by omega, by omega⟩
theorem l1Once_ok (b : List Int) (hb : b.length ≤ 1048576) (s h n : Int) (hs : Cur b s) : ∃ (t : Bool) (s' h' : Int), spec_l1Once.f b s h n = some (t, s', h') ∧ Cur b s' := by
 obtain ⟨x, s', h', e, _, _, hc⟩ := l1Below_ok b hb s h n hs
 unfold spec_l1Once.f
 rw [e]
 exact ⟨_, s', h', rfl, hc⟩
theorem l1Int_ok (b : List Int) (hb : b.length ≤ 1048576) (s h : Int) (l : List Int) (hl : 0 < l.length) (hs : Cur b s) : ∃ x s' h', spec_l1Int.f b s h l = some (x, s', h') ∧ x ∈ l ∧ Cur b s' := by
 obtain ⟨x, s', h', e, h0, h1, hc⟩ := l1Below_ok b hb s h (l.length : Int) hs
 have h1 := h1 (by omega)
 unfold spec_l1Int.f
 rw [e]
 simp only [Option.bind_some]
 rw [if_pos h0, if_pos h1]
 refine ⟨_, s', h', rfl, ?_, hc⟩
 have hx : x.toNat < l.length := by omega
 have := rd_nat l x.toNat hx
 rw [Int.toNat_of_nonneg h0] at this
 rw [this]
 exact List.getElem_mem hx
theorem l5Row_l0 (b : List Int) (hb : b.length ≤ 1048576) (n : Nat) (hn : n ≤ 1000) (d : Nat) : ∀ (i : Nat) (r : List Int) (s h : Int), n - i = d → i ≤ n → r.length = i → Cur b s → ∃ (r' : List Int) (s' h' : Int), Ev (fun k => spec_l5Row.l0 k (n : Int) r (i : Int) b s h) (r', s', h') ∧ r'.length = n ∧ Cur b s' := by
 induction d with
|zero =>
  intro i r s h hd hi hr hs
  refine ⟨r, s, h, Ev.step (f := fun _ => some (r, s, h)) (fun k => ?_) (Ev.now _), by omega, hs⟩
  simp only [spec_l5Row.l0]
  rw [if_neg (by omega)]
|succ d ih =>
  intro i r s h hd hi hr hs
  obtain ⟨x, s1, h1, e1, _, c1⟩ := l1Int_ok b hb s h [0, 0, 1, 1, 1, (-1), 2, (-2)] (by simp) hs
  obtain ⟨r', s', h', ev, hl, hc⟩ := ih (i + 1) (r ++ [x]) s1 h1 (by omega) (by omega) (by simp [hr]) c1
  refine ⟨r', s', h', Ev.step (f := fun k => spec_l5Row.l0 k (n : Int) (r ++ [x]) ((i + 1 : Nat) : Int) b s1 h1) (fun k => ?_) ev, hl, hc⟩
  simp only [spec_l5Row.l0]
  rw [if_pos (by omega), e1]
  simp only [Option.bind_some]
  rw [if_pos (by omega), wrap_id (by omega) (by omega)]
  rfl
theorem l5Row_ev (b : List Int) (hb : b.length ≤ 1048576) (n : Nat) (hn : n ≤ 1000) (s h : Int) (hs : Cur b s) : ∃ (r' : List Int) (s' h' : Int), Ev (fun k => spec_l5Row.f k b s h (n : Int)) (r', s', h') ∧ r'.length = n ∧ Cur b s' := by
 unfold spec_l5Row.f
 exact l5Row_l0 b hb n hn n 0 [] s h (by omega) (by omega) rfl hs
theorem l5Draw_l0 (b : List Int) (hb : b.length ≤ 1048576) (n : Nat) (hn : n ≤ 1000) (i : Nat) : ∀ (m : List (List Int)) (s h : Int), m.length + i ≤ 1000 → (∀ r ∈ m, r.length = n) → Cur b s → ∃ (m' : List (List Int)) (s' h' : Int), Ev (fun k => spec_l5Draw.l0 k (n : Int) m (i : Int) b s h) (m', s', h') ∧ m'.length = m.length + i ∧ (∀ r ∈ m', r.length = n) ∧ Cur b s' := by
 induction i with
|zero =>
  intro m s h hm hr hs
  refine ⟨m, s, h, Ev.step (f := fun _ => some (m, s, h)) (fun k => ?_) (Ev.now _), by omega, hr, hs⟩
  simp only [spec_l5Draw.l0]
  rw [if_neg (by omega)]
|succ i ih =>
  intro m s h hm hr hs
  obtain ⟨x, s1, h1, e1, hx, c1⟩ := l5Row_ev b hb n hn s h hs
  obtain ⟨m', s', h', ev, hl, hm', hc⟩ := ih (m ++ [x]) s1 h1 (by simp;omega) (fun r hr' => by
   rcases List.mem_append.1 hr' with h|h
   ·exact hr r h
   ·rw [List.mem_singleton.1 h];exact hx) c1
  refine ⟨m', s', h', Ev.step (f := fun k => (spec_l5Row.f k b s h (n : Int)).bind fun bt => spec_l5Draw.l0 k (n : Int) (m ++ [bt.1]) (i : Int) b bt.2.1 bt.2.2) (fun k => ?_) (Ev.bind e1 ev), by rw [hl];simp;omega, hm', hc⟩
  simp only [spec_l5Draw.l0]
  rw [if_pos (by omega), wrap_id (by omega) (by omega)]
  simp only [if_pos (show m.length < 5864062014805 by omega), show ((i + 1 : Nat) : Int) - 1 = (i : Int) by omega]
theorem l5Draw_ev (b : List Int) (hb : b.length ≤ 1048576) (n : Nat) (hn : n ≤ 1000) (s h : Int) (hs : Cur b s) : ∃ (m' : List (List Int)) (s' h' : Int), Ev (fun k => spec_l5Draw.f k b s h (n : Int)) (m', s', h') ∧ m'.length ≤ 6 ∧ (∀ r ∈ m', r.length = n) ∧ Cur b s' := by
 obtain ⟨x, s1, h1, e1, x0, x1, c1⟩ := l1Below_ok b hb s h 7 hs
 have x2 := x1 (by decide)
 obtain ⟨i, rfl⟩ := Int.eq_ofNat_of_zero_le x0
 obtain ⟨m', s', h', ev, hl, hm', hc⟩ := l5Draw_l0 b hb n hn i [] s1 h1 (by simp;omega) (by simp) c1
 refine ⟨m', s', h', ?_, by rw [hl];simp;omega, hm', hc⟩
 unfold spec_l5Draw.f
 simp only [e1, Option.bind_some]
 exact ev
theorem l5Any_l0 (b : List Int) (hb : b.length ≤ 1048576) (n : Nat) (hn : n ≤ 1000) (d : Nat) : ∀ (m : List (List Int)) (s h : Int), m.length + d = 13 → (∀ r ∈ m, r.length = n) → Cur b s → ∃ (m' : List (List Int)) (s' h' : Int), Ev (fun k => spec_l5Any.l0 k (n : Int) m b s h) (m', s', h') ∧ m'.length = 13 ∧ (∀ r ∈ m', r.length = n) ∧ Cur b s' := by
 induction d with
|zero =>
  intro m s h hm hr hs
  refine ⟨m, s, h, Ev.step (f := fun _ => some (m, s, h)) (fun k => ?_) (Ev.now _), by omega, hr, hs⟩
  simp only [spec_l5Any.l0]
  rw [if_neg (by omega)]
|succ d ih =>
  intro m s h hm hr hs
  obtain ⟨x, s1, h1, e1, hx, c1⟩ := l5Row_ev b hb n hn s h hs
  obtain ⟨m', s', h', ev, hl, hm', hc⟩ := ih (m ++ [x]) s1 h1 (by simp;omega) (fun r hr' => by
   rcases List.mem_append.1 hr' with h|h
   ·exact hr r h
   ·rw [List.mem_singleton.1 h];exact hx) c1
  refine ⟨m', s', h', Ev.step (f := fun k => (spec_l5Row.f k b s h (n : Int)).bind fun bt => spec_l5Any.l0 k (n : Int) (m ++ [bt.1]) b bt.2.1 bt.2.2) (fun k => ?_) (Ev.bind e1 ev), hl, hm', hc⟩
  simp only [spec_l5Any.l0]
  rw [if_pos (by omega)]
  simp only [if_pos (show m.length < 5864062014805 by omega)]
structure Drawn (m : List (List Int)) (n : Nat) : Prop where
 len : m.length ≤ 13
 fst : ∀ r ∈ m, r.length = n ∨ r.length = n + 1
 rest : ∀ i (h : i < m.length), 0 < i → m[i].length = n
theorem Drawn.of {m : List (List Int)} {n : Nat} (hl : m.length ≤ 13) (h : ∀ r ∈ m, r.length = n) : Drawn m n := ⟨hl, fun r hr => .inl (h r hr), fun i hi _ => h _ (List.getElem_mem hi)⟩
theorem Drawn.set0 {m : List (List Int)} {n : Nat} (hl : m.length ≤ 13) (h : ∀ r ∈ m, r.length = n) (x : List Int) (hx : x.length = n ∨ x.length = n + 1) : Drawn (m.set 0 x) n := by
 refine ⟨by simpa using hl, fun r hr => ?_, fun i hi h0 => ?_⟩
 ·rcases List.mem_or_eq_of_mem_set hr with h1|h1
  ·exact .inl (h r h1)
  ·rw [h1];exact hx
 ·rw [List.getElem_set_ne (by omega)]
  exact h _ (List.getElem_mem _)
theorem l5Any_ev (b : List Int) (hb : b.length ≤ 1048576) (n : Nat) (hn0 : 0 < n) (hn : n ≤ 1000) (s h : Int) (hs : Cur b s) : ∃ (m' : List (List Int)) (s' h' : Int), Ev (fun k => spec_l5Any.f k b s h (n : Int)) (m', s', h') ∧ Drawn m' n ∧ Cur b s' := by
 obtain ⟨m, s1, h1, e1, hm, hr, c1⟩ := l5Draw_ev b hb n hn s h hs
 unfold spec_l5Any.f
 by_cases c0 : (m.length : Int) = 0
 ·refine ⟨m, s1, h1, Ev.bind e1 ?_, Drawn.of (by omega) hr, c1⟩
  simp only [if_pos c0]
  exact Ev.now _
 obtain ⟨x, s2, h2, e2, x0, x1, c2⟩ := l1Below_ok b hb s1 h1 9 c1
 have hrow : rd_L1 m 0 = m[0]'(by omega) := rdL_nat m 0 (by omega)
 have hl0 : (m[0]'(by omega)).length = n := hr _ (List.getElem_mem _)
 by_cases k0 : x = 0
 ·refine ⟨m.set 0 (m[0]'(by omega) ++ [1]), s2, h2, Ev.bind e1 ?_, Drawn.set0 (by omega) hr _ (by simp [hl0]), c2⟩
  simp only [if_neg c0, e2, Option.bind_some, if_pos k0, if_pos (show 0 < (m.length : Int) by omega), hrow]
  rw [if_pos (by omega)]
  exact Ev.now _
 by_cases k1 : x = 1
 ·obtain ⟨y, s3, h3, e3, _, c3⟩ := l1Int_ok b hb s2 h2 [3, (-3), 9223372036854775807] (by simp) c2
  refine ⟨m.set 0 ((m[0]'(by omega)).set 0 y), s3, h3, Ev.bind e1 ?_, Drawn.set0 (by omega) hr _ (by simp [hl0]), c3⟩
  simp only [if_neg c0, e2, Option.bind_some, if_neg k0, if_pos k1, if_pos (show 0 < (m.length : Int) by omega), hrow, e3]
  rw [if_pos (by omega)]
  exact Ev.now _
 by_cases k2 : x = 2
 ·obtain ⟨m', s', h', ev, hl, hm', hc⟩ := l5Any_l0 b hb n hn (13 - m.length) m s2 h2 (by omega) hr c2
  refine ⟨m', s', h', Ev.bind e1 ?_, Drawn.of (by omega) hm', hc⟩
  simp only [if_neg c0, e2, Option.bind_some, if_neg k0, if_neg k1, if_pos k2]
  exact ev
 ·refine ⟨m, s2, h2, Ev.bind e1 ?_, Drawn.of (by omega) hr, c2⟩
  simp only [if_neg c0, e2, Option.bind_some, if_neg k0, if_neg k1, if_neg k2]
  exact Ev.now _
theorem rrI_ev (m : List (List Int)) (c : Int) (hm : m.length ≤ 16777216) (hr : ∀ x ∈ m, x.length ≤ 16777216) : ∃ R : List (List Int), Ev (fun k => impl_ReduceRows.f k m c) R ∧ (isMat m c = false → R = []) ∧
  (isMat m c = true → ∃ (n : Nat) (P : List (List Int × Nat)) (Q : List (List Int)), c = (n : Int) ∧ Okm m n n ∧ Red (RowSp m) n P Q ∧ (∀ p ∈ P, p.1.length = n) ∧ P.length + Q.length = m.length ∧ R = P.reverse.map (·.1)) := by
 have hmi := implMat_ev m hm hr c
 cases hb : isMat m c with
|false =>
  rw [hb] at hmi
  refine ⟨[], ?_, by simp, by simp⟩
  unfold impl_ReduceRows.f
  refine Ev.bind hmi ?_
  simp only [Bool.false_eq_true, if_false]
  exact Ev.now _
|true =>
  rw [hb] at hmi
  obtain ⟨n, rfl, hok, hm12⟩ := okm_of_isMat hb
  obtain ⟨P, Q, hR, hP, hQ, hcnt, hev⟩ := implRedN hok
  refine ⟨(P.map (·.1)).reverse, ?_, by simp, fun _ => ⟨n, P, Q, rfl, hok, hR, hP, hcnt, by rw [List.map_reverse]⟩⟩
  unfold impl_ReduceRows.f
  refine Ev.bind hmi ?_
  simp only [if_true]
  exact Ev.bind hev (Ev.now _)
structure RowsOk (n : Nat) (L : List (List Int × Nat)) : Prop where
 len : ∀ p ∈ L, p.1.length = n
 col : ∀ p ∈ L, p.2 < n
 low : ∀ p ∈ L, ∀ j, j < p.2 → at0 p.1 j = 0
 pos : ∀ p ∈ L, 0 < at0 p.1 p.2
 zero : ∀ p ∈ L, ∀ q ∈ L, p.2 ≠ q.2 → at0 p.1 q.2 = 0
 inc : (L.map (·.2)).Pairwise (· < ·)
theorem RowsOk.of {S : V → Prop} {n : Nat} {P : List (List Int × Nat)} {Q : List (List Int)} (h : Red S n P Q) (hP : ∀ p ∈ P, p.1.length = n) : RowsOk n P.reverse :=
 ⟨fun p hp => hP p (List.mem_reverse.1 hp), fun p hp => h.ncol p (List.mem_reverse.1 hp), fun p hp => h.lead p (List.mem_reverse.1 hp), fun p hp => h.pos p (List.mem_reverse.1 hp), fun p hp q hq => h.st.piv.2.2 p (List.mem_reverse.1 hp) q (List.mem_reverse.1 hq), by
  rw [List.map_reverse, List.pairwise_reverse]
  exact h.sorted⟩
theorem RowsOk.lt {n : Nat} {L : List (List Int × Nat)} (h : RowsOk n L) (i j : Nat) (hi : i < L.length) (hj : j < L.length) (hij : i < j) : L[i].2 < L[j].2 := by
 have := List.pairwise_iff_getElem.1 h.inc i j (by simpa using hi) (by simpa using hj) hij
 simpa using this
theorem RowsOk.ne {n : Nat} {L : List (List Int × Nat)} (h : RowsOk n L) (i j : Nat) (hi : i < L.length) (hj : j < L.length) (hij : j ≠ i) : L[j].2 ≠ L[i].2 := by
 rcases Nat.lt_or_ge j i with h1 | h1
 ·have := h.lt j i hj hi h1; omega
 ·have := h.lt i j hi hj (by omega); omega
theorem RowsOk.rows {L : List (List Int × Nat)} (i : Nat) (hi : i < L.length) : rd_L1 (L.map (·.1)) (i : Int) = L[i].1 := by
 rw [rdL_nat _ i (by simpa using hi)]
 simp
theorem rows_l3 (m : List (List Int)) (n : Nat) (L : List (List Int × Nat)) (h : RowsOk n L) (hl : L.length ≤ 1000) (hn : n ≤ 1000) (i : Nat) (hi : i < L.length) (hend : Ev (fun k => laws_FnRows.l1 k m (n : Int) (L.map (·.1)) (L[i].2 : Int) ((i + 1 : Nat) : Int)) true) (d : Nat) : ∀ j : Nat, L.length - j = d → Ev (fun k => laws_FnRows.l3 k m (n : Int) (L.map (·.1)) (i : Int) (L[i].2 : Int) (j : Int)) true := by
 induction d with
|zero =>
  intro j hd
  refine Ev.step (fun k => ?_) hend
  simp only [laws_FnRows.l3]
  rw [if_neg (by rw [List.length_map];omega), wrap_id (by omega) (by omega)]
  rfl
|succ d ih =>
  intro j hd
  have hj : j < L.length := by omega
  refine Ev.step (fun k => ?_) (ih (j + 1) (by omega))
  simp only [laws_FnRows.l3]
  rw [if_pos (by rw [List.length_map];omega)]
  by_cases e : j = i
  ·rw [if_pos (by omega), wrap_id (by omega) (by omega)]
   rfl
  ·have hc := h.col _ (List.getElem_mem hi)
   have hlj := h.len _ (List.getElem_mem hj)
   have hz := h.zero _ (List.getElem_mem hj) _ (List.getElem_mem hi) (h.ne i j hi hj e)
   rw [if_neg (by omega), if_pos (by omega), if_pos (by omega), RowsOk.rows j hj, if_pos (by omega), at0_rd, if_pos hz, wrap_id (by omega) (by omega)]
   rfl
theorem rows_l2 (m : List (List Int)) (n : Nat) (L : List (List Int × Nat)) (h : RowsOk n L) (hl : L.length ≤ 1000) (hn : n ≤ 1000) (i : Nat) (hi : i < L.length) (last : Int) (hlast : last < (L[i].2 : Int)) (hend : Ev (fun k => laws_FnRows.l1 k m (n : Int) (L.map (·.1)) (L[i].2 : Int) ((i + 1 : Nat) : Int)) true) (d : Nat) : ∀ c : Nat, L[i].2 - c = d → c ≤ L[i].2 → Ev (fun k => laws_FnRows.l2 k m (n : Int) (L.map (·.1)) last (i : Int) (c : Int)) true := by
 have hc := h.col _ (List.getElem_mem hi)
 have hli := h.len _ (List.getElem_mem hi)
 have hp := h.pos _ (List.getElem_mem hi)
 induction d with
|zero =>
  intro c hd hcl
  have e : c = L[i].2 := by omega
  subst e
  have h3 := rows_l3 m n L h hl hn i hi hend L.length 0 (by omega)
  have h4 : Ev (fun k => laws_FnRows.j4 k m (n : Int) (L.map (·.1)) (i : Int) (L[i].2 : Int) false) true := Ev.step (fun k => by
   simp only [laws_FnRows.j4]
   rw [if_neg (by decide)]
   rfl) h3
  refine Ev.step (f := fun k => laws_FnRows.j3 k m (n : Int) (L.map (·.1)) last (i : Int) (L[i].2 : Int)) (fun k => ?_) (Ev.step (fun k => ?_) h4)
  ·simp only [laws_FnRows.l2]
   rw [if_pos (by omega), if_pos (by omega), if_pos (by rw [List.length_map];omega), if_pos (by omega), RowsOk.rows i hi, if_pos (by omega), at0_rd, if_neg (by omega)]
  ·simp only [laws_FnRows.j3]
   rw [if_neg (by omega), if_neg (by omega), if_pos (by omega), if_pos (by rw [List.length_map];omega), if_pos (by omega), RowsOk.rows i hi, if_pos (by omega), at0_rd, decide_eq_false (by omega)]
|succ d ih =>
  intro c hd hcl
  have hz := h.low _ (List.getElem_mem hi) c (by omega)
  refine Ev.step (fun k => ?_) (ih (c + 1) (by omega) (by omega))
  simp only [laws_FnRows.l2]
  rw [if_pos (by omega), if_pos (by omega), if_pos (by rw [List.length_map];omega), if_pos (by omega), RowsOk.rows i hi, if_pos (by omega), at0_rd, if_pos hz, wrap_id (by omega) (by omega)]
  rfl
theorem rows_l1 (m : List (List Int)) (n : Nat) (L : List (List Int × Nat)) (h : RowsOk n L) (hl : L.length ≤ m.length) (hl2 : L.length ≤ n) (hm : m.length ≤ 1000) (hn : n ≤ 1000) (hrank : Ev (fun k => impl_RankOf.f k m (n : Int)) (L.length : Int)) (d : Nat) : ∀ (i : Nat) (last : Int), L.length - i = d → (∀ hi : i < L.length, last < (L[i].2 : Int)) → Ev (fun k => laws_FnRows.l1 k m (n : Int) (L.map (·.1)) last (i : Int)) true := by
 induction d with
|zero =>
  intro i last hd hlast
  refine Ev.step (f := fun k => (impl_RankOf.f k m (n : Int)).bind fun t => some (t == (L.length : Int))) (fun k => ?_) (Ev.bind hrank ?_)
  ·simp only [laws_FnRows.l1]
   rw [if_neg (by rw [List.length_map];omega), if_pos (by rw [List.length_map];omega), if_pos (by rw [List.length_map];omega), List.length_map]
  ·rw [beq_self_eq_true]
   exact Ev.now _
|succ d ih =>
  intro i last hd hlast
  have hi : i < L.length := by omega
  have := rows_l2 m n L h (by omega) hn i hi last (hlast hi) (ih (i + 1) _ (by omega) fun hi2 => by
   have := h.lt i (i + 1) hi hi2 (by omega)
   omega) L[i].2 0 (by omega) (by omega)
  refine Ev.step (fun k => ?_) this
  simp only [laws_FnRows.l1]
  rw [if_pos (by rw [List.length_map];omega)]
  rfl
theorem rows_l0 (m : List (List Int)) (c : Int) (R : List (List Int)) (hm : m.length ≤ 1000) (hr : ∀ r ∈ m, Ev (fun k => impl_NullVector.f k m r) [] ∧ Ev (fun k => impl_IsInSpan.f k m r) true) (hend : Ev (fun k => laws_FnRows.l1 k m c R (-1) 0) true) (d : Nat) : ∀ i : Nat, m.length - i = d → Ev (fun k => laws_FnRows.l0 k m c R (i : Int)) true := by
 induction d with
|zero =>
  intro i hd
  refine Ev.step (fun k => ?_) hend
  simp only [laws_FnRows.l0]
  rw [if_neg (by omega)]
|succ d ih =>
  intro i hd
  have h : i < m.length := by omega
  obtain ⟨h1, h2⟩ := hr _ (List.getElem_mem h)
  refine Ev.step (f := fun k => (impl_NullVector.f k m m[i]).bind fun t => (impl_IsInSpan.f k m m[i]).bind fun u => if u = true then (if (t.length : Int) > 0 then some false else laws_FnRows.l0 k m c R ((i + 1 : Nat) : Int)) else some false) (fun k => ?_) (Ev.bind h1 (Ev.bind h2 ?_))
  ·simp only [laws_FnRows.l0]
   rw [if_pos (by omega), if_pos (by omega), rdL_nat m i h, wrap_id (by omega) (by omega)]
   rfl
  ·simp only [if_true]
   exact ih (i + 1) (by omega)
theorem drawRows_ev (b : List Int) (hb : b.length ≤ 1048576) : ∃ (m : List (List Int)) (c : Int), Ev (fun k => spec_DrawReduceRows.f k b) (m, c) ∧ m.length ≤ 13 ∧ ∀ r ∈ m, r.length ≤ 7 := by
 suffices h : ∃ (m : List (List Int)) (c : Int), Ev (fun k => spec_DrawIsMatrix.f k b) (m, c) ∧ m.length ≤ 13 ∧ ∀ r ∈ m, r.length ≤ 7 by
  obtain ⟨m, c, e, h1⟩ := h
  refine ⟨m, c, ?_, h1⟩
  unfold spec_DrawReduceRows.f
  exact Ev.bind e (Ev.now _)
 obtain ⟨h0, e0⟩ := l1New_ev b hb
 obtain ⟨x, s1, h1, e1, x0, x1, c1⟩ := l1Below_ok b hb 0 h0 6 (cur0 b)
 have x2 := x1 (by decide)
 obtain ⟨j, rfl⟩ := Int.eq_ofNat_of_zero_le x0
 have hw : wrap64 (1 + (j : Int)) = ((j + 1 : Nat) : Int) := by rw [wrap_id (by omega) (by omega)];omega
 obtain ⟨m, s2, h2, e2, hm, c2⟩ := l5Any_ev b hb (j + 1) (by omega) (by omega) s1 h1 c1
 obtain ⟨t, s3, h3, e3, c3⟩ := l1Once_ok b hb s2 h2 8 c2
 have hr : ∀ r ∈ m, r.length ≤ 7 := fun r h => by have := hm.fst r h;omega
 unfold spec_DrawIsMatrix.f
 cases t with
|false =>
  refine ⟨m, ((j + 1 : Nat) : Int), ?_, hm.len, hr⟩
  refine Ev.bind e0 ?_
  simp only [e1, Option.bind_some, hw]
  refine Ev.bind e2 ?_
  simp only [e3, Option.bind_some, Bool.false_eq_true, if_false]
  exact Ev.now _
|true =>
  obtain ⟨y, s4, h4, e4, _, c4⟩ := l1Int_ok b hb s3 h3 [0, 7, (-1)] (by simp) c3
  refine ⟨m, y, ?_, hm.len, hr⟩
  refine Ev.bind e0 ?_
  simp only [e1, Option.bind_some, hw]
  refine Ev.bind e2 ?_
  simp only [e3, Option.bind_some, if_true, e4]
  exact Ev.now _
theorem FnRows : laws_FnRows.Pure := by
 intro l0 _ _ w0
 refine Ev.rounds ?_
 unfold laws_FnRows.f
 simp only [big_eq, Option.bind_some]
 by_cases cb : (l0.length : Int) > 1048576
 ·simp only [decide_eq_true cb, if_true];exact Ev.now true
 have b_l0 : l0.length ≤ 1048576 := by omega
 simp only [decide_eq_false cb, Bool.false_eq_true, if_false]
 obtain ⟨m, c, hd, hm, hr⟩ := drawRows_ev l0 b_l0
 have hmr : ∀ x ∈ m, x.length ≤ 16777216 := fun x hx => by have := hr x hx;omega
 obtain ⟨R, hR, hF, hT⟩ := rrI_ev m c (by omega) hmr
 have e1 := implMat_ev m (by omega) hmr c
 have e2 := specMat_ev m (by omega) hmr c
 refine Ev.bind hd ?_
 refine Ev.bind hR ?_
 refine Ev.bind e1 ?_
 refine Ev.bind e2 ?_
 simp only [bne_self_eq_false, Bool.false_eq_true, if_false]
 refine Ev.bind e1 ?_
 cases hb : isMat m c with
|false =>
  rw [hF hb]
  simp only [Bool.false_eq_true, if_false]
  exact Ev.now true
|true =>
  simp only [if_true]
  obtain ⟨n, P, Q, rfl, hok, hRed, hP, hcnt, rfl⟩ := hT hb
  have hle := hok.le6
  have hPl := hRed.len
  have hlen : (P.reverse.map (·.1)).length = P.reverse.length := List.length_map _
  refine rows_l0 m (n : Int) _ (by omega) (fun r hrm => ?_) ?_ m.length 0 (by omega)
  ·have hrl : (r.length : Int) = (n : Int) := by rw [hok.len r hrm]
   have hsp : Sp (RowSp m) (at0 r) := Sp.of ⟨r, hrm, rfl⟩
   have hbb : bothB m r = true := by
    unfold bothB
    rw [hrl, hb, Bool.true_and]
    obtain ⟨q1, q2, q3⟩ := (isMat_iff m _).1 hb
    exact (isMat_iff [r] _).2 ⟨q1, by simp, fun x hx => by rw [List.mem_singleton.1 hx];exact q3 r hrm⟩
   obtain ⟨v, vI, _, _, v2, _⟩ := null_impl m r (by omega) hmr (hmr r hrm)
   obtain ⟨b, bI, bi, _⟩ := implSpan_ev m r (by omega) hmr (hmr r hrm)
   rw [v2 hsp] at vI
   rw [(bi hbb).2 hsp] at bI
   exact ⟨vI, bI⟩
  ·refine rows_l1 m n P.reverse (RowsOk.of hRed hP) (by rw [List.length_reverse];omega) (by rw [List.length_reverse];omega) (by omega) (by omega) ?_ P.reverse.length 0 (-1) (by omega) fun hi => by omega
   unfold impl_RankOf.f
   refine Ev.bind hR ?_
   rw [hlen]
   exact Ev.now _
end Go.Proofs.Ytojkepidkmkmpaa.Pure
end
section
namespace Go.Proofs.Ytojkepidkmkmpaa.fnRows
open Go.ChangeShapes Go.WideShapes Go.ChangeAt Go.RowKit
open Go.ChangeMaps (open_string shut_string)
set_option linter.unusedVariables false
theorem own : ownKnob Try.prog.godebug = none := by kernel_rfl
theorem laidOut : laidOutB Try.prog = true := by kernel_rfl
def IsRow (k : IntKind) (w : World) (a : Option Addr) (len cap : Nat) (zs : List Int) : Prop :=
 (a = none ∧ len = 0 ∧ cap = 0 ∧ zs = []) ∨
 ∃ x, a = some x ∧ len ≤ cap ∧ cap ≤ maxLen ∧ zs.length = cap ∧ (∀ i, i < zs.length → w.cell? (x.add i) = some (.int k (zs.getD i 0))) ∧ ∀ n ∈ zs, (Lit.int k n).wf = true
set_option maxRecDepth 100000 in
theorem lifted (os : Os) (started : os.Started) (H : Type) (enc : TypeId × Value → H) :
  ReturnsInHanded {} Try.checked os 6 .any (Rows.fnRowsSpec.pre6 enc Try.prog Try.f6 Rows.fnRowsRow.domain false) (Rows.fnRowsSpec.post enc Try.prog Try.f6 false true false false) := by
 refine returnsInHanded_of_change_sized (C := Try.checked) own started (by kernel_rfl) Try.func6
  (ChangeSpec.witness6 (enc := enc) (C := Try.checked) false ⟨#[], #[.slice none 0 0], []⟩ 8 (by kernel_rfl) (by kernel_rfl) (by kernel_rfl) (by kernel_rfl)) ?_
 intro W base args ds gs before hval0 hW hcnd hsz0 _
 have hsz : (DataW.weightsEach Try.prog (Try.f6.params.toList ++ Rows.fnRowsSpec.plain.varTypes Try.prog) (ds ++ gs)).all (· ≤ reachBytes) = true := hsz0
 have hval : ∀ (j : Nat) t v, Try.f6.params[j]? = some t → args[j]? = some v → Value.okWide Try.prog W .any base t v := hval0
 have hW' := hW
 obtain ⟨p, q, hA0, hV, rfl, hfz, hnd⟩ := hW
 have hA : DataW.TrodAll enc Try.prog W 0 (fun _ => true) true Try.f6.params.toList args.toList ds p := hA0
 rw [Try.params6] at hA hval hsz
 obtain ⟨v0, vs0, d0, ds0, p0, q0, hargs, rfl, rfl, h0, r0⟩ := trodAll_cons hA
 obtain ⟨rfl, rfl, rfl⟩ := trodAll_nil r0
 obtain rfl : args = #[v0] := by cases args;simp_all
 obtain ⟨rfl, rfl⟩ := trodVars_none hV
 obtain ⟨a0, len0, cap0, rfl⟩ := okWide_slice Try.underlying35 (hval 0 35 v0 rfl rfl)
 have k0 := h0
 have lt0 : ∀ x ∈ p0, x.block < W.heap.size := by obtain ⟨m, hm⟩ := k0;exact DataW.trod_lt m _ _ _ hm
 obtain ⟨z0, w0⟩ : ∃ zs, IsRow .u8 W a0 len0 cap0 zs := by
  obtain ⟨fuel, hf⟩ := h0
  rcases open_ints Try.underlying35 Try.underlying5 (by kernel_rfl) hf with ⟨hcs, _⟩|⟨x, l, c, zs, hcs, _, hl, hm, hz, _, hcell, hwz⟩
  ·simp [Value.cells] at hcs
   obtain ⟨rfl, rfl, rfl⟩ := hcs
   exact ⟨[], .inl ⟨rfl, rfl, rfl, rfl⟩⟩
  ·simp [Value.cells] at hcs
   obtain ⟨rfl, rfl, rfl⟩ := hcs
   exact ⟨zs, .inr ⟨_, rfl, hl, hm, by simpa using hz, hcell, hwz⟩⟩
 have y0 : len0 * 1 ≤ 140737488351232 := Go.Proofs.YtojkepidkmkmpaaW.PrintWords.sized_ints hsz (j := 0) (t := 35) rfl rfl Try.underlying35 Try.underlying5 (by kernel_rfl) (by kernel_rfl) h0
 clear hA0 hval0 hsz0 hsz
 refine (PFnRows.laws_FnRows.walk Pure.FnRows a0 len0 cap0 z0 W w0 y0).mono fun e W' ⟨he, bel⟩ => ?_
 subst he
 exact ⟨_, rfl, _, _, _, [], _, [], hW', trodAll_mk1 (shut_bool Try.underlying4 _), (trodAll_cons_mk (Below.trod laidOut (by kernel_rfl) (of_decide_eq_true (by kernel_rfl)) k0 bel lt0) trodAll_mk0), rfl, bel.frame _, fun h => by cases h⟩
theorem over : Rows.fnRowsRow.holds Try.pinned (OpenSpec.ofChange Rows.fnRowsSpec) :=
 OpenClaim.holds_of_wide 6 Try.f6 rfl rfl rfl rfl rfl rfl rfl ⟨rfl, rfl, rfl, rfl, rfl⟩ rfl rfl rfl rfl rfl (by kernel_rfl) Try.func6 (by kernel_rfl)
  (of_decide_eq_true (by kernel_rfl)) (by unfold Func.isWrapper; first | (rw [if_pos (by decide +kernel)]; kernel_rfl) | (rw [if_neg (by decide +kernel)]; exact ⟨rfl, rfl⟩))
  (fun os started H enc _ => lifted os started H enc)
theorem proved : Rows.FnRowsSaid := over
#print axioms proved
end Go.Proofs.Ytojkepidkmkmpaa.fnRows
namespace Go.Proofs.Ytojkepidkmkmpaa
theorem fnRows_holds : Rows.FnRowsSaid := fnRows.proved
end Go.Proofs.Ytojkepidkmkmpaa
end
