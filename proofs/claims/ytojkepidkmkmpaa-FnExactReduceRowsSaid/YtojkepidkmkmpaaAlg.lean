/-
  Plain mathematics: reduced rows of whole numbers: what they span, that they are unique, how large they grow.
  Conditions: none of its own.
-/
namespace Go.Proofs.YtojkepidkmkmpaaAlg

abbrev V := Nat → Int

inductive Sp (S : V → Prop) : V → Prop
  | of {v : V} : S v → Sp S v
  | zero : Sp S (fun _ => 0)
  | add {u v : V} : Sp S u → Sp S v → Sp S (fun j => u j + v j)
  | smul {u : V} (c : Int) : Sp S u → Sp S (fun j => c * u j)
  | div {u : V} (c : Int) : c ≠ 0 → Sp S (fun j => c * u j) → Sp S u

theorem Sp.congr {S : V → Prop} {u v : V} (h : Sp S u) (e : ∀ j, u j = v j) : Sp S v := by
  have : u = v := funext e
  rwa [← this]

theorem Sp.trans {S T : V → Prop} {v : V} (h : Sp S v) (k : ∀ v, S v → Sp T v) : Sp T v := by
  induction h with
  | of h => exact k _ h
  | zero => exact Sp.zero
  | add _ _ h1 h2 => exact Sp.add h1 h2
  | smul c _ h => exact Sp.smul c h
  | div c hc _ h => exact Sp.div c hc h

theorem Sp.mono {S T : V → Prop} {v : V} (h : Sp S v) (k : ∀ v, S v → T v) : Sp T v := h.trans fun v hv => Sp.of (k v hv)

theorem Sp.comb {S : V → Prop} {u v : V} (a b : Int) (h : Sp S u) (k : Sp S v) : Sp S (fun j => a * u j + b * v j) := Sp.add (Sp.smul a h) (Sp.smul b k)

theorem Sp.sub {S : V → Prop} {u v : V} (a b : Int) (h : Sp S u) (k : Sp S v) : Sp S (fun j => a * u j - b * v j) :=
  (Sp.comb a (-b) h k).congr fun j => by rw [Int.neg_mul, ← Int.sub_eq_add_neg]

/-- A linear form that vanishes on the generators vanishes on the span. -/
theorem Sp.kill {S : V → Prop} {v : V} (h : Sp S v) (φ : V → Int) (h0 : φ (fun _ => 0) = 0) (ha : ∀ u v, φ (fun j => u j + v j) = φ u + φ v)
    (hm : ∀ c u, φ (fun j => c * u j) = c * φ u) (hS : ∀ v, S v → φ v = 0) : φ v = 0 := by
  induction h with
  | of h => exact hS _ h
  | zero => exact h0
  | add _ _ h1 h2 => rw [ha, h1, h2]; rfl
  | smul c _ h => rw [hm, h, Int.mul_zero]
  | div c hc _ h =>
    rw [hm] at h
    exact (Int.mul_eq_zero.1 h).resolve_left hc

/-- A coordinate in which all generators are 0. -/
theorem Sp.coord {S : V → Prop} {v : V} (h : Sp S v) (j : Nat) (hS : ∀ v, S v → v j = 0) : v j = 0 :=
  h.kill (fun v => v j) rfl (fun _ _ => rfl) (fun _ _ => rfl) hS

/-- What lies in the span of o and T is, but for a multiple of o, in the span of T. -/
theorem Sp.split {T : V → Prop} {o v : V} (h : Sp (fun u => u = o ∨ T u) v) : ∃ a b : Int, a ≠ 0 ∧ Sp T (fun j => a * v j - b * o j) := by
  induction h with
  | of h =>
    rcases h with rfl | h
    · exact ⟨1, 1, by decide, Sp.zero.congr fun j => by simp⟩
    · exact ⟨1, 0, by decide, (Sp.of h).congr fun j => by omega⟩
  | zero => exact ⟨1, 0, by decide, Sp.zero.congr fun j => by simp⟩
  | add _ _ h1 h2 =>
    obtain ⟨a1, b1, ha1, h1⟩ := h1
    obtain ⟨a2, b2, ha2, h2⟩ := h2
    refine ⟨a1 * a2, a2 * b1 + a1 * b2, Int.mul_ne_zero ha1 ha2, (Sp.comb a2 a1 h1 h2).congr fun j => ?_⟩
    simp only [Int.mul_sub, Int.mul_add, Int.add_mul, Int.mul_assoc, Int.mul_left_comm a2 a1]
    omega
  | smul c _ h =>
    obtain ⟨a, b, ha, h⟩ := h
    refine ⟨a, c * b, ha, (Sp.smul c h).congr fun j => ?_⟩
    simp only [Int.mul_sub, Int.mul_assoc, Int.mul_left_comm]
  | div c hc _ h =>
    obtain ⟨a, b, ha, h⟩ := h
    refine ⟨a * c, b, Int.mul_ne_zero ha hc, h.congr fun j => ?_⟩
    simp only [Int.mul_assoc]

/-! ### Determinants by expansion along the first column -/
def E (c : Nat) (F : List V → Int) : List V → Int
  | [] => 0
  | R :: Rs => R c * F Rs - E c (fun X => F (R :: X)) Rs
def det : List Nat → List V → Int
  | [], _ => 1
  | c :: cs, Rs => E c (det cs) Rs

theorem E_lin (c : Nat) (k l : Int) : ∀ (Rs : List V) (F G : List V → Int), E c (fun X => k * F X - l * G X) Rs = k * E c F Rs - l * E c G Rs
  | [], F, G => by simp [E]
  | R :: Rs, F, G => by
    simp only [E]
    rw [E_lin c k l Rs (fun X => F (R :: X)) (fun X => G (R :: X))]
    simp only [Int.mul_sub, Int.mul_left_comm (R c)]
    omega

theorem E_smul (c : Nat) (k : Int) (Rs : List V) (F : List V → Int) : E c (fun X => k * F X) Rs = k * E c F Rs := by
  have := E_lin c k 0 Rs F F
  simpa using this

theorem E_zero (c : Nat) (Rs : List V) : E c (fun _ => 0) Rs = 0 := by
  have := E_smul c 0 Rs (fun _ => 0)
  simpa using this

theorem E_swap (a b : Nat) : ∀ (Rs : List V) (F : List V → Int), E a (fun X => E b F X) Rs = - E b (fun X => E a F X) Rs
  | [], F => by simp [E]
  | R :: Rs, F => by
    have h1 : E a (fun X => E b F (R :: X)) Rs = R b * E a F Rs - E a (fun X => E b (fun Y => F (R :: Y)) X) Rs := by
      have := E_lin a (R b) 1 Rs F (fun X => E b (fun Y => F (R :: Y)) X)
      simpa [E] using this
    have h2 : E b (fun X => E a F (R :: X)) Rs = R a * E b F Rs - E b (fun X => E a (fun Y => F (R :: Y)) X) Rs := by
      have := E_lin b (R a) 1 Rs F (fun X => E a (fun Y => F (R :: Y)) X)
      simpa [E] using this
    have h3 := E_swap a b Rs (fun Y => F (R :: Y))
    show R a * E b F Rs - E a (fun X => E b F (R :: X)) Rs = -(R b * E a F Rs - E b (fun X => E a F (R :: X)) Rs)
    rw [h1, h2, h3]
    omega

theorem det_dup (cs : List Nat) : ∀ (c : Nat), c ∈ cs → ∀ Rs, det (c :: cs) Rs = 0 := by
  induction cs with
  | nil => intro c h; simp at h
  | cons d cs ih =>
    intro c h Rs
    have hs : det (c :: d :: cs) Rs = - E d (fun X => det (c :: cs) X) Rs := E_swap c d Rs (det cs)
    by_cases e : c = d
    · subst e
      have : det (c :: c :: cs) Rs = E c (fun X => det (c :: cs) X) Rs := rfl
      omega
    · have hm : c ∈ cs := by simpa [e] using h
      rw [hs]
      have : (fun X => det (c :: cs) X) = fun _ => 0 := funext (ih c hm)
      rw [this, E_zero]
      rfl

theorem det_erase (cs : List Nat) : ∀ (c : Nat), c ∈ cs → ∃ ε : Int, (ε = 1 ∨ ε = -1) ∧ ∀ Rs, det (c :: cs.erase c) Rs = ε * det cs Rs := by
  induction cs with
  | nil => intro c h; simp at h
  | cons d cs ih =>
    intro c h
    by_cases e : c = d
    · subst e
      exact ⟨1, .inl rfl, fun Rs => by simp⟩
    · have hm : c ∈ cs := by simpa [e] using h
      obtain ⟨ε, he, h⟩ := ih c hm
      refine ⟨-ε, by omega, fun Rs => ?_⟩
      have e1 : (d :: cs).erase c = d :: cs.erase c := by
        rw [List.erase_cons_tail]
        simpa using fun e' => e e'.symm
      rw [e1]
      have hs : det (c :: d :: cs.erase c) Rs = - E d (fun X => det (c :: cs.erase c) X) Rs := E_swap c d Rs (det (cs.erase c))
      rw [hs]
      have : (fun X => det (c :: cs.erase c) X) = fun X => ε * det cs X := funext h
      rw [this, E_smul]
      show -(ε * det (d :: cs) Rs) = _
      rw [Int.neg_mul]

theorem E_mem (F : List V → Int) : ∀ (Rs : List V), Sp (· ∈ Rs) (fun j => E j F Rs) := by
  intro Rs
  induction Rs generalizing F with
  | nil => exact Sp.zero
  | cons R Rs ih =>
    have h1 : Sp (· ∈ R :: Rs) R := Sp.of (by simp)
    have h2 : Sp (· ∈ R :: Rs) (fun j => E j (fun X => F (R :: X)) Rs) := (ih _).mono fun v hv => by simp [hv]
    exact (Sp.sub (F Rs) 1 h1 h2).congr fun j => by simp only [E, Int.one_mul, Int.mul_comm]

theorem det_head (cs : List Nat) (o : V) (Rs : List V) : Sp (· ∈ Rs) (fun j => det (j :: cs) (o :: Rs) - det cs Rs * o j) := by
  have h := E_mem (fun X => det cs (o :: X)) Rs
  refine (Sp.smul (-1) h).congr fun j => ?_
  simp only [det, E]
  rw [Int.mul_comm (o j)]
  omega

def fct : Nat → Nat
  | 0 => 1
  | n + 1 => (n + 1) * fct n
def prod (b : Nat → Nat) : List Nat → Nat
  | [] => 1
  | c :: cs => b c * prod b cs

theorem E_bound (c : Nat) (B N : Nat) : ∀ (Rs : List V) (F : List V → Int), (∀ R ∈ Rs, (R c).natAbs ≤ B) →
    (∀ X : List V, X.length + 1 = Rs.length → (∀ R ∈ X, R ∈ Rs) → (F X).natAbs ≤ N) → (E c F Rs).natAbs ≤ Rs.length * (B * N)
  | [], F, _, _ => by simp [E]
  | R :: Rs, F, hR, hF => by
    have h1 : (R c).natAbs ≤ B := hR R (by simp)
    have h2 : (F Rs).natAbs ≤ N := hF Rs (by simp) fun x hx => by simp [hx]
    have h3 := E_bound c B N Rs (fun X => F (R :: X)) (fun x hx => hR x (by simp [hx])) fun X hX hm => hF (R :: X) (by simp [hX]) fun x hx => by
      rcases List.mem_cons.1 hx with rfl | hx
      · simp
      · simp [hm x hx]
    have h4 : (R c * F Rs).natAbs ≤ B * N := by rw [Int.natAbs_mul]; exact Nat.mul_le_mul h1 h2
    simp only [E, List.length_cons, Nat.add_mul, Nat.one_mul]
    omega

theorem det_bound (b : Nat → Nat) : ∀ (cs : List Nat) (Rs : List V), (∀ R ∈ Rs, ∀ c ∈ cs, (R c).natAbs ≤ b c) → Rs.length = cs.length →
    (det cs Rs).natAbs ≤ fct cs.length * prod b cs
  | [], Rs, _, _ => by simp [det, fct, prod]
  | c :: cs, Rs, hb, hl => by
    have := E_bound c (b c) (fct cs.length * prod b cs) Rs (det cs) (fun R hR => hb R hR c (by simp)) fun X hX hm =>
      det_bound b cs X (fun R hR d hd => hb R (hm R hR) d (by simp [hd])) (by simp at hl; omega)
    have e : Rs.length * (b c * (fct cs.length * prod b cs)) = fct (c :: cs).length * prod b (c :: cs) := by
      rw [hl]
      simp only [List.length_cons, fct, prod, Nat.mul_assoc, Nat.mul_left_comm]
    rw [← e]
    exact this
end Go.Proofs.YtojkepidkmkmpaaAlg
namespace Go.Proofs.YtojkepidkmkmpaaAlg

/-- The j-th number of a row, 0 behind its end. -/
def at0 (l : List Int) : V := fun j => l.getD j 0

/-! ### Sums over pivots -/
def sumOver {α : Type} (f : α → Int) : List α → Int
  | [] => 0
  | a :: l => f a + sumOver f l
theorem sumOver_add {α : Type} (f g : α → Int) : ∀ l, sumOver (fun a => f a + g a) l = sumOver f l + sumOver g l
  | [] => rfl
  | a :: l => by simp only [sumOver]; rw [sumOver_add f g l]; omega
theorem sumOver_mul {α : Type} (c : Int) (f : α → Int) : ∀ l, sumOver (fun a => c * f a) l = c * sumOver f l
  | [] => by simp [sumOver]
  | a :: l => by simp only [sumOver]; rw [sumOver_mul c f l, Int.mul_add]
theorem sumOver_zero {α : Type} (f : α → Int) : ∀ l : List α, (∀ a ∈ l, f a = 0) → sumOver f l = 0
  | [], _ => rfl
  | a :: l, h => by simp only [sumOver]; rw [h a (by simp), sumOver_zero f l fun x hx => h x (by simp [hx])]; rfl
theorem sumOver_congr {α : Type} (f g : α → Int) : ∀ l : List α, (∀ a ∈ l, f a = g a) → sumOver f l = sumOver g l
  | [], _ => rfl
  | a :: l, h => by simp only [sumOver]; rw [h a (by simp), sumOver_congr f g l fun x hx => h x (by simp [hx])]

/-- RowSp with pivots: each row is not 0 at its own, and 0 at the others'. -/
def Piv (P : List (List Int × Nat)) : Prop := (P.map (·.2)).Nodup ∧ (∀ p ∈ P, at0 p.1 p.2 ≠ 0) ∧ ∀ p ∈ P, ∀ q ∈ P, p.2 ≠ q.2 → at0 p.1 q.2 = 0

theorem sumOver_one (P : List (List Int × Nat)) (f : List Int × Nat → Int) (q : List Int × Nat) (hn : (P.map (·.2)).Nodup) (hq : q ∈ P) (h0 : ∀ p ∈ P, p.2 ≠ q.2 → f p = 0) : sumOver f P = f q := by
  induction P with
  | nil => simp at hq
  | cons p P ih =>
    simp only [List.map_cons, List.nodup_cons] at hn
    simp only [sumOver]
    by_cases e : p = q
    · subst e
      rw [sumOver_zero f P fun a ha => h0 a (by simp [ha]) fun e => hn.1 (by rw [← e]; exact List.mem_map_of_mem ha)]
      omega
    · have hm : q ∈ P := by simpa [Ne.symm e] using hq
      rw [h0 p (by simp) fun e' => hn.1 (by rw [e']; exact List.mem_map_of_mem hm), ih hn.2 hm fun a ha => h0 a (by simp [ha])]
      omega

/-- What is left of L times v when the pivots' columns have been made 0. -/
def res (L : Int) (P : List (List Int × Nat)) (v : V) : V := fun j => L * v j - sumOver (fun p => L / at0 p.1 p.2 * v p.2 * at0 p.1 j) P

theorem res_zero (L : Int) (P : List (List Int × Nat)) (j : Nat) : res L P (fun _ => 0) j = 0 := by
  unfold res
  rw [sumOver_zero _ _ fun p _ => by simp]
  simp
theorem res_add (L : Int) (P : List (List Int × Nat)) (u v : V) (j : Nat) : res L P (fun j => u j + v j) j = res L P u j + res L P v j := by
  unfold res
  have := sumOver_add (fun p : List Int × Nat => L / at0 p.1 p.2 * u p.2 * at0 p.1 j) (fun p => L / at0 p.1 p.2 * v p.2 * at0 p.1 j) P
  have e : sumOver (fun p : List Int × Nat => L / at0 p.1 p.2 * (u p.2 + v p.2) * at0 p.1 j) P = sumOver (fun p => L / at0 p.1 p.2 * u p.2 * at0 p.1 j + L / at0 p.1 p.2 * v p.2 * at0 p.1 j) P :=
    sumOver_congr _ _ _ fun p _ => by simp only [Int.mul_add, Int.add_mul]
  rw [e, this, Int.mul_add]
  omega
theorem res_mul (L : Int) (P : List (List Int × Nat)) (c : Int) (u : V) (j : Nat) : res L P (fun j => c * u j) j = c * res L P u j := by
  unfold res
  have := sumOver_mul c (fun p : List Int × Nat => L / at0 p.1 p.2 * u p.2 * at0 p.1 j) P
  have e : sumOver (fun p : List Int × Nat => L / at0 p.1 p.2 * (c * u p.2) * at0 p.1 j) P = sumOver (fun p => c * (L / at0 p.1 p.2 * u p.2 * at0 p.1 j)) P :=
    sumOver_congr _ _ _ fun p _ => by simp only [Int.mul_assoc, Int.mul_left_comm]
  rw [e, this, Int.mul_sub, Int.mul_left_comm]

/-- A vector of the span of rows with pivots is told by its numbers in the pivots' columns. -/
theorem res_span {P : List (List Int × Nat)} (hP : Piv P) (L : Int) (hL : ∀ p ∈ P, at0 p.1 p.2 ∣ L) {v : V} (h : Sp (fun u => ∃ p ∈ P, at0 p.1 = u) v) (j : Nat) : res L P v j = 0 := by
  refine h.kill (fun v => res L P v j) (res_zero L P j) (fun u v => res_add L P u v j) (fun c u => res_mul L P c u j) fun u hu => ?_
  obtain ⟨q, hq, rfl⟩ := hu
  unfold res
  rw [sumOver_one P _ q hP.1 hq fun p hp e => by
    show L / at0 p.1 p.2 * at0 q.1 p.2 * at0 p.1 j = 0
    rw [hP.2.2 q hq p hp (Ne.symm e)]
    simp]
  rw [Int.ediv_mul_cancel (hL q hq)]
  omega

/-- The remainder is 0 at the pivots. -/
theorem res_piv {P : List (List Int × Nat)} (hP : Piv P) (L : Int) (hL : ∀ p ∈ P, at0 p.1 p.2 ∣ L) (v : V) (q : List Int × Nat) (hq : q ∈ P) : res L P v q.2 = 0 := by
  unfold res
  rw [sumOver_one P _ q hP.1 hq fun p hp e => by
    show L / at0 p.1 p.2 * v p.2 * at0 p.1 q.2 = 0
    rw [hP.2.2 p hp q hq e]
    simp]
  show L * v q.2 - L / at0 q.1 q.2 * v q.2 * at0 q.1 q.2 = 0
  have := Int.ediv_mul_cancel (hL q hq)
  rw [Int.mul_right_comm, this]
  omega

theorem sumOver_mem (S : V → Prop) (P : List (List Int × Nat)) (g : List Int × Nat → Int) (h : ∀ p ∈ P, Sp S (at0 p.1)) : Sp S (fun j => sumOver (fun p => g p * at0 p.1 j) P) := by
  induction P with
  | nil => exact Sp.zero
  | cons p P ih =>
    exact Sp.add (Sp.smul (g p) (h p (by simp))) (ih fun q hq => h q (by simp [hq]))

/-- The remainder lies in the span of v and the rows. -/
theorem res_mem {S : V → Prop} {P : List (List Int × Nat)} (L : Int) {v : V} (hv : Sp S v) (h : ∀ p ∈ P, Sp S (at0 p.1)) : Sp S (res L P v) := by
  refine (Sp.sub L 1 hv (sumOver_mem S P (fun p => L / at0 p.1 p.2 * v p.2) h)).congr fun j => ?_
  unfold res
  omega

def common (P : List (List Int × Nat)) : Int := P.foldr (fun p c => at0 p.1 p.2 * c) 1
theorem common_ne {P : List (List Int × Nat)} (h : ∀ p ∈ P, at0 p.1 p.2 ≠ 0) : common P ≠ 0 := by
  induction P with
  | nil => decide
  | cons p P ih => exact Int.mul_ne_zero (h p (by simp)) (ih fun q hq => h q (by simp [hq]))
theorem dvd_common {P : List (List Int × Nat)} : ∀ p ∈ P, at0 p.1 p.2 ∣ common P := by
  induction P with
  | nil => simp
  | cons p P ih =>
    intro q hq
    rcases List.mem_cons.1 hq with rfl | hq
    · exact Int.dvd_mul_right _ _
    · exact Int.dvd_trans (ih q hq) (Int.dvd_mul_left _ _)

theorem zero_of_piv {P : List (List Int × Nat)} (hP : Piv P) {v : V} (h : Sp (fun u => ∃ p ∈ P, at0 p.1 = u) v) (h0 : ∀ p ∈ P, v p.2 = 0) (j : Nat) : v j = 0 := by
  have hr := res_span hP (common P) dvd_common h j
  unfold res at hr
  rw [sumOver_zero _ _ fun p hp => by rw [h0 p hp]; simp] at hr
  have : common P * v j = 0 := by omega
  exact (Int.mul_eq_zero.1 this).resolve_left (common_ne hP.2.1)

/-- Two vectors of the span that are 0 at all pivots but one: each is a multiple of the other. -/
theorem prop_of_piv {P : List (List Int × Nat)} (hP : Piv P) {u v : V} (hu : Sp (fun u => ∃ p ∈ P, at0 p.1 = u) u) (hv : Sp (fun u => ∃ p ∈ P, at0 p.1 = u) v)
    (q : List Int × Nat) (h0 : ∀ p ∈ P, p.2 ≠ q.2 → u p.2 = 0 ∧ v p.2 = 0) (j : Nat) : v q.2 * u j = u q.2 * v j := by
  have := zero_of_piv hP (Sp.sub (v q.2) (u q.2) hu hv) (fun p hp => by
    by_cases e : p.2 = q.2
    · rw [e, Int.mul_comm]; omega
    · rw [(h0 p hp e).1, (h0 p hp e).2]; simp) j
  omega

/-! ### RowSp without a common divisor -/
def Prim (v : V) : Prop := ∀ d : Int, (∀ j, d ∣ v j) → d ∣ 1

theorem Prim.dvd {v : V} (h : Prim v) (a b : Int) (hb : b ≠ 0) (hd : ∀ j, b ∣ a * v j) : b ∣ a := by
  have hg : (Int.gcd b a : Int) ≠ 0 := by
    intro e
    have := Int.gcd_eq_zero_iff.1 (by omega : Int.gcd b a = 0)
    exact hb this.1
  obtain ⟨b', hb'⟩ := Int.gcd_dvd_left b a
  have h1 : b' ∣ 1 := h b' fun j => by
    have h2 : b ∣ v j * Int.gcd b a := Int.dvd_mul_gcd_iff_dvd_mul.2 (by rw [Int.mul_comm]; exact hd j)
    obtain ⟨c, hc⟩ := h2
    refine ⟨c, ?_⟩
    have h3 : (Int.gcd b a : Int) * v j = (Int.gcd b a : Int) * (b' * c) := by
      rw [← Int.mul_assoc, ← hb', ← hc, Int.mul_comm]
    exact Int.eq_of_mul_eq_mul_left hg h3
  obtain ⟨c, hc⟩ := h1
  have h4 : (Int.gcd b a : Int) = b * c := by
    rw [hb', Int.mul_assoc, ← hc, Int.mul_one]
    exact congrArg _ (by rw [← hb'])
  exact Int.dvd_trans ⟨c, h4⟩ (Int.gcd_dvd_right b a)

/-- A row without a common divisor that is a multiple of w divides w. -/
theorem Prim.of_prop {v w : V} (h : Prim v) (a b : Int) (hb : b ≠ 0) (e : ∀ j, a * v j = b * w j) : ∃ c, (∀ j, w j = c * v j) ∧ a = b * c := by
  obtain ⟨c, hc⟩ := h.dvd a b hb fun j => ⟨w j, e j⟩
  refine ⟨c, fun j => ?_, hc⟩
  have := e j
  rw [hc, Int.mul_assoc] at this
  exact (Int.eq_of_mul_eq_mul_left hb this).symm

theorem Prim.bound {v w : V} (h : Prim v) (a b : Int) (ha : a ≠ 0) (hb : b ≠ 0) (e : ∀ j, a * v j = b * w j) (j : Nat) : (v j).natAbs ≤ (w j).natAbs := by
  obtain ⟨c, hc, hac⟩ := h.of_prop a b hb e
  have h0 : c ≠ 0 := fun h => ha (by rw [hac, h, Int.mul_zero])
  rw [hc j, Int.natAbs_mul]
  exact Nat.le_mul_of_pos_left _ (Int.natAbs_pos.2 h0)

theorem Prim.eq {v w : V} (hv : Prim v) (hw : Prim w) (a b : Int) (ha : 0 < a) (hb : 0 < b) (e : ∀ j, a * v j = b * w j) (j : Nat) : v j = w j := by
  obtain ⟨c, hc, hac⟩ := hv.of_prop a b (by omega) e
  have h1 : c ∣ 1 := hw c fun j => ⟨v j, by rw [hc j]⟩
  have hcp : 0 < c := by
    have : 0 < b * c := by omega
    exact Int.pos_of_mul_pos_right this (by omega)
  have h2 := Int.le_of_dvd (by decide) h1
  have : c = 1 := by omega
  rw [hc j, this, Int.one_mul]
end Go.Proofs.YtojkepidkmkmpaaAlg
namespace Go.Proofs.YtojkepidkmkmpaaAlg

def PS (P : List (List Int × Nat)) : V → Prop := fun u => ∃ p ∈ P, at0 p.1 = u

/-- What holds of the rows at every step of the reduction: P the rows with pivots (the newest first), Q the others. -/
structure St (S : V → Prop) (P : List (List Int × Nat)) (Q : List (List Int)) : Prop where
  piv : Piv P
  rest0 : ∀ q ∈ Q, ∀ p ∈ P, at0 q p.2 = 0
  inP : ∀ p ∈ P, Sp S (at0 p.1)
  inQ : ∀ q ∈ Q, Sp S (at0 q)
  all : ∀ v, S v → Sp (fun u => PS P u ∨ ∃ q ∈ Q, at0 q = u) v
  orig : ∃ Os : List V, (∀ o ∈ Os, S o ∧ Sp (PS P) o) ∧ Os.length = P.length ∧ det (P.map (·.2)) Os ≠ 0
  from_ : ∀ q ∈ Q, ∃ o, S o ∧ Sp (fun u => u = o ∨ PS P u) (at0 q)

theorem St.start (Q : List (List Int)) (S : V → Prop) (h1 : ∀ q ∈ Q, ∃ o, S o ∧ ∃ g, g ≠ 0 ∧ ∀ j, g * at0 q j = o j) (h2 : ∀ v, S v → ∃ q ∈ Q, ∃ g, g ≠ 0 ∧ ∀ j, g * at0 q j = v j) : St S [] Q where
  piv := ⟨by simp, by simp, by simp⟩
  rest0 := by simp
  inP := by simp
  inQ := fun q hq => by
    obtain ⟨o, ho, g, hg, e⟩ := h1 q hq
    exact Sp.div g hg ((Sp.of ho).congr fun j => (e j).symm)
  all := fun v hv => by
    obtain ⟨q, hq, g, hg, e⟩ := h2 v hv
    exact (Sp.smul g (Sp.of (.inr ⟨q, hq, rfl⟩))).congr e
  orig := ⟨[], by simp, rfl, by simp [det]⟩
  from_ := fun q hq => by
    obtain ⟨o, ho, g, hg, e⟩ := h1 q hq
    exact ⟨o, ho, Sp.div g hg ((Sp.of (.inl rfl)).congr fun j => (e j).symm)⟩

/-- RowSp of no use: those that are 0 may be left out, and the order doesn't count. -/
theorem St.rest {S : V → Prop} {P : List (List Int × Nat)} {Q Q' : List (List Int)} (h : St S P Q) (h1 : ∀ q ∈ Q', q ∈ Q) (h2 : ∀ q ∈ Q, q ∈ Q' ∨ ∀ j, at0 q j = 0) : St S P Q' where
  piv := h.piv
  rest0 := fun q hq => h.rest0 q (h1 q hq)
  inP := h.inP
  inQ := fun q hq => h.inQ q (h1 q hq)
  all := fun v hv => (h.all v hv).trans fun u hu => by
    rcases hu with hu | ⟨q, hq, rfl⟩
    · exact Sp.of (.inl hu)
    · rcases h2 q hq with hq' | h0
      · exact Sp.of (.inr ⟨q, hq', rfl⟩)
      · exact Sp.zero.congr fun j => (h0 j).symm
  orig := h.orig
  from_ := fun q hq => h.from_ q (h1 q hq)

theorem at0_prop {S : V → Prop} {P : List (List Int × Nat)} {Q : List (List Int)} (h : St S P Q) (Os : List V) (hO : ∀ o ∈ Os, S o ∧ Sp (PS P) o) (_hl : Os.length = P.length) (hD : det (P.map (·.2)) Os ≠ 0)
    (q : List Int) (hq : q ∈ Q) (hn : ∃ j, at0 q j ≠ 0) : ∃ (o : V) (a b : Int), S o ∧ a ≠ 0 ∧ b ≠ 0 ∧ Sp (PS P) (fun j => a * at0 q j - b * o j) ∧ ∀ j, det (P.map (·.2)) Os * a * at0 q j = b * det (j :: P.map (·.2)) (o :: Os) := by
  obtain ⟨o, ho, hs⟩ := h.from_ q hq
  obtain ⟨a, b, ha, hab⟩ := hs.split
  have hhead : Sp (PS P) (fun j => det (j :: P.map (·.2)) (o :: Os) - det (P.map (·.2)) Os * o j) := (det_head (P.map (·.2)) o Os).trans fun v hv => (hO v hv).2
  have hz : ∀ j, det (P.map (·.2)) Os * a * at0 q j = b * det (j :: P.map (·.2)) (o :: Os) := by
    have hs : Sp (PS P) (fun j => det (P.map (·.2)) Os * a * at0 q j - b * det (j :: P.map (·.2)) (o :: Os)) := by
      refine (Sp.sub (det (P.map (·.2)) Os) b hab hhead).congr fun j => ?_
      simp only [Int.mul_sub, Int.mul_assoc, Int.mul_left_comm b]
      omega
    intro j
    have := zero_of_piv h.piv hs (fun p hp => by
      show det (P.map (·.2)) Os * a * at0 q p.2 - b * det (p.2 :: P.map (·.2)) (o :: Os) = 0
      rw [h.rest0 q hq p hp, det_dup _ p.2 (List.mem_map_of_mem hp)]
      simp) j
    omega
  refine ⟨o, a, b, ho, ha, ?_, hab, hz⟩
  rintro rfl
  obtain ⟨j, hj⟩ := hn
  have := hz j
  rw [Int.zero_mul] at this
  rcases Int.mul_eq_zero.1 this with h | h
  · exact Int.mul_ne_zero hD ha h
  · exact hj h

/-- One step: the row q of the rest with a number that is not 0 in column k becomes a row with a pivot; in all others that column is made 0. -/
theorem St.step {S : V → Prop} {P : List (List Int × Nat)} {Q Q' : List (List Int)} (h : St S P Q) (q : List Int) (k : Nat) (hk : at0 q k ≠ 0) (hq : q ∈ Q)
    (hQ : ∀ x ∈ Q, x = q ∨ x ∈ Q') (hQ' : ∀ x ∈ Q', x ∈ Q) (f : List Int → List Int)
    (hf : ∀ r, ((∃ p ∈ P, p.1 = r) ∨ r ∈ Q') → ∃ g α β : Int, g ≠ 0 ∧ α ≠ 0 ∧ (∀ j, g * at0 (f r) j = α * at0 r j - β * at0 q j) ∧ at0 (f r) k = 0) :
    St S ((q, k) :: P.map fun p => (f p.1, p.2)) (Q'.map f) := by
  have hcol : ((P.map fun p => (f p.1, p.2)).map (·.2)) = P.map (·.2) := by rw [List.map_map]; rfl
  have hknot : k ∉ P.map (·.2) := fun hm => by
    replace hm := List.mem_map.1 hm
    obtain ⟨p, hp, rfl⟩ := hm
    exact hk (h.rest0 q hq p hp)
  have hfp : ∀ p ∈ P, ∃ g α β : Int, g ≠ 0 ∧ α ≠ 0 ∧ (∀ j, g * at0 (f p.1) j = α * at0 p.1 j - β * at0 q j) ∧ at0 (f p.1) k = 0 := fun p hp => hf p.1 (.inl ⟨p, hp, rfl⟩)
  have hfq : ∀ r ∈ Q', ∃ g α β : Int, g ≠ 0 ∧ α ≠ 0 ∧ (∀ j, g * at0 (f r) j = α * at0 r j - β * at0 q j) ∧ at0 (f r) k = 0 := fun r hr => hf r (.inr hr)
  -- what the new rows span
  have hqin : Sp (PS ((q, k) :: P.map fun p => (f p.1, p.2))) (at0 q) := Sp.of ⟨(q, k), by simp, rfl⟩
  have hold : ∀ v, PS P v → Sp (PS ((q, k) :: P.map fun p => (f p.1, p.2))) v := by
    rintro v ⟨p, hp, rfl⟩
    obtain ⟨g, α, β, hg, hα, e, _⟩ := hfp p hp
    have h1 : Sp (PS ((q, k) :: P.map fun p => (f p.1, p.2))) (at0 (f p.1)) := Sp.of ⟨(f p.1, p.2), List.mem_cons_of_mem _ (List.mem_map.2 ⟨p, hp, rfl⟩), rfl⟩
    refine Sp.div α hα ((Sp.comb g β h1 hqin).congr fun j => ?_)
    rw [e j]
    omega
  refine ⟨⟨?_, ?_, ?_⟩, ?_, ?_, ?_, ?_, ?_, ?_⟩
  · simp only [List.map_cons, List.nodup_cons, hcol]
    exact ⟨hknot, h.piv.1⟩
  · intro p hp
    replace hp := List.mem_cons.1 hp
    rcases hp with rfl | hp
    · exact hk
    · replace hp := List.mem_map.1 hp
      obtain ⟨p, hp, rfl⟩ := hp
      obtain ⟨g, α, β, hg, hα, e, _⟩ := hfp p hp
      intro h0
      have h1 := e p.2
      have h0' : at0 (f p.1) p.2 = 0 := h0
      rw [h0', h.rest0 q hq p hp] at h1
      have h2 := Int.mul_ne_zero hα (h.piv.2.1 p hp)
      omega
  · intro p hp p' hp' hne
    replace hp := List.mem_cons.1 hp
    rcases hp with rfl | hp
    · replace hp' := List.mem_cons.1 hp'
      rcases hp' with rfl | hp'
      · exact absurd rfl hne
      · replace hp' := List.mem_map.1 hp'
        obtain ⟨p', hp', rfl⟩ := hp'
        exact h.rest0 q hq p' hp'
    · replace hp := List.mem_map.1 hp
      obtain ⟨p, hp, rfl⟩ := hp
      obtain ⟨g, α, β, hg, hα, e, h0⟩ := hfp p hp
      replace hp' := List.mem_cons.1 hp'
      rcases hp' with rfl | hp'
      · exact h0
      · replace hp' := List.mem_map.1 hp'
        obtain ⟨p', hp', rfl⟩ := hp'
        have h1 := e p'.2
        rw [h.rest0 q hq p' hp', h.piv.2.2 p hp p' hp' hne] at h1
        have : g * at0 (f p.1) p'.2 = 0 := by omega
        exact (Int.mul_eq_zero.1 this).resolve_left hg
  · intro r hr p hp
    replace hr := List.mem_map.1 hr
    obtain ⟨r, hr, rfl⟩ := hr
    obtain ⟨g, α, β, hg, hα, e, h0⟩ := hfq r hr
    replace hp := List.mem_cons.1 hp
    rcases hp with rfl | hp
    · exact h0
    · replace hp := List.mem_map.1 hp
      obtain ⟨p, hp, rfl⟩ := hp
      have h1 := e p.2
      rw [h.rest0 q hq p hp, h.rest0 r (hQ' r hr) p hp] at h1
      have : g * at0 (f r) p.2 = 0 := by omega
      exact (Int.mul_eq_zero.1 this).resolve_left hg
  · intro p hp
    replace hp := List.mem_cons.1 hp
    rcases hp with rfl | hp
    · exact h.inQ q hq
    · replace hp := List.mem_map.1 hp
      obtain ⟨p, hp, rfl⟩ := hp
      obtain ⟨g, α, β, hg, hα, e, h0⟩ := hfp p hp
      exact Sp.div g hg ((Sp.sub α β (h.inP p hp) (h.inQ q hq)).congr fun j => (e j).symm)
  · intro r hr
    replace hr := List.mem_map.1 hr
    obtain ⟨r, hr, rfl⟩ := hr
    obtain ⟨g, α, β, hg, hα, e, h0⟩ := hfq r hr
    exact Sp.div g hg ((Sp.sub α β (h.inQ r (hQ' r hr)) (h.inQ q hq)).congr fun j => (e j).symm)
  · intro v hv
    refine (h.all v hv).trans fun u hu => ?_
    rcases hu with hu | ⟨r, hr, rfl⟩
    · exact (hold u hu).mono fun v hv => .inl hv
    · rcases hQ r hr with rfl | hr'
      · exact hqin.mono fun v hv => .inl hv
      · obtain ⟨g, α, β, hg, hα, e, _⟩ := hfq r hr'
        have h1 : Sp (fun u => PS ((q, k) :: P.map fun p => (f p.1, p.2)) u ∨ ∃ x ∈ Q'.map f, at0 x = u) (at0 (f r)) := Sp.of (.inr ⟨f r, List.mem_map_of_mem hr', rfl⟩)
        refine Sp.div α hα ((Sp.comb g β h1 (hqin.mono fun v hv => .inl hv)).congr fun j => ?_)
        rw [e j]
        omega
  · obtain ⟨Os, hO, hl, hD⟩ := h.orig
    obtain ⟨o, a, b, ho, ha, hb, hab, hz⟩ := at0_prop h Os hO hl hD q hq ⟨k, hk⟩
    refine ⟨o :: Os, fun x hx => ?_, by simp [hl], ?_⟩
    · replace hx := List.mem_cons.1 hx
      rcases hx with rfl | hx
      · refine ⟨ho, Sp.div b hb ?_⟩
        have h1 := hab.trans hold
        refine (Sp.sub a 1 hqin h1).congr fun j => ?_
        omega
      · exact ⟨(hO x hx).1, (hO x hx).2.trans hold⟩
    · simp only [List.map_cons, hcol]
      intro h0
      have := hz k
      rw [h0, Int.mul_zero] at this
      exact Int.mul_ne_zero (Int.mul_ne_zero hD ha) hk this
  · intro r hr
    replace hr := List.mem_map.1 hr
    obtain ⟨r, hr, rfl⟩ := hr
    obtain ⟨g, α, β, hg, hα, e, h0⟩ := hfq r hr
    obtain ⟨o, ho, hs⟩ := h.from_ r (hQ' r hr)
    refine ⟨o, ho, Sp.div g hg ?_⟩
    have h1 : Sp (fun u => u = o ∨ PS ((q, k) :: P.map fun p => (f p.1, p.2)) u) (at0 r) := hs.trans fun u hu => by
      rcases hu with rfl | hu
      · exact Sp.of (.inl rfl)
      · exact (hold u hu).mono fun v hv => .inr hv
    exact (Sp.sub α β h1 (hqin.mono fun v hv => .inr hv)).congr fun j => (e j).symm

/-! ### Bounds -/
theorem fct_pos (n : Nat) : 0 < fct n := by
  induction n with
  | zero => decide
  | succ n ih => exact Nat.mul_pos (by omega) ih

/-- The rows with pivots are bounded by minors of the rows that came in, and all their pivots divide one of these. -/
theorem St.bound_piv {S : V → Prop} {P : List (List Int × Nat)} {Q : List (List Int)} (h : St S P Q) (b : Nat → Nat) (hb : ∀ o, S o → ∀ j, (o j).natAbs ≤ b j) (hp : ∀ p ∈ P, Prim (at0 p.1)) :
    ∃ D : Int, D ≠ 0 ∧ D.natAbs ≤ fct P.length * prod b (P.map (·.2)) ∧ ∀ p ∈ P, ∃ c : Int, D = at0 p.1 p.2 * c ∧ ∀ j, (c * at0 p.1 j).natAbs ≤ fct P.length * (b j * prod b ((P.map (·.2)).erase p.2)) := by
  obtain ⟨Os, hO, hl, hD⟩ := h.orig
  refine ⟨det (P.map (·.2)) Os, hD, ?_, fun p hpm => ?_⟩
  · have := det_bound b (P.map (·.2)) Os (fun R hR c _ => hb R (hO R hR).1 c) (by simp [hl])
    simpa using this
  · obtain ⟨ε, hε, he⟩ := det_erase (P.map (·.2)) p.2 (List.mem_map_of_mem hpm)
    have hW0 : Sp (PS P) (fun j => det (j :: (P.map (·.2)).erase p.2) Os) := by
      have h0 : Sp (· ∈ Os) (fun j => E j (det ((P.map fun x => x.2).erase p.2)) Os) := E_mem _ Os
      exact h0.trans fun v hv => (hO v hv).2
    have hW : Sp (PS P) (fun j => ε * det (j :: (P.map (·.2)).erase p.2) Os) := Sp.smul ε hW0
    have hpr := prop_of_piv h.piv (v := at0 p.1) hW (Sp.of ⟨p, hpm, rfl⟩) p fun q hq hne => ⟨by
      show ε * det (q.2 :: (P.map (·.2)).erase p.2) Os = 0
      rw [det_dup _ q.2 ((List.mem_erase_of_ne hne).2 (List.mem_map_of_mem hq)), Int.mul_zero], h.piv.2.2 p hpm q hq (Ne.symm hne)⟩
    have hεε : ε * (ε * det (P.map (·.2)) Os) = det (P.map (·.2)) Os := by rcases hε with rfl | rfl <;> omega
    have hpr' : ∀ j, det (P.map (·.2)) Os * at0 p.1 j = at0 p.1 p.2 * (ε * det (j :: (P.map (·.2)).erase p.2) Os) := fun j => by
      have := hpr j
      simp only [he Os, hεε] at this
      exact this.symm
    obtain ⟨c, hc, hDc⟩ := (hp p hpm).of_prop _ _ (h.piv.2.1 p hpm) hpr'
    refine ⟨c, hDc, fun j => ?_⟩
    rw [← hc j, Int.natAbs_mul]
    have h1 := det_bound b (j :: (P.map (·.2)).erase p.2) Os (fun R hR c _ => hb R (hO R hR).1 c) (by
      simp only [List.length_cons, List.length_erase_of_mem (List.mem_map_of_mem (f := (·.2)) hpm), List.length_map, hl]
      have := List.length_pos_of_mem hpm
      omega)
    have h2 : (j :: (P.map (·.2)).erase p.2).length = P.length := by
      simp only [List.length_cons, List.length_erase_of_mem (List.mem_map_of_mem (f := (·.2)) hpm), List.length_map]
      have := List.length_pos_of_mem hpm
      omega
    rw [h2] at h1
    have h3 : ε.natAbs = 1 := by rcases hε with rfl | rfl <;> rfl
    rw [h3, Nat.one_mul]
    exact h1

/-- The rows of the rest are bounded by minors, too. -/
theorem St.bound_rest {S : V → Prop} {P : List (List Int × Nat)} {Q : List (List Int)} (h : St S P Q) (b : Nat → Nat) (hb : ∀ o, S o → ∀ j, (o j).natAbs ≤ b j) (q : List Int) (hq : q ∈ Q) (hp : (∀ j, at0 q j = 0) ∨ Prim (at0 q)) (j : Nat) :
    (at0 q j).natAbs ≤ fct (P.length + 1) * (b j * prod b (P.map (·.2))) := by
  by_cases hn : ∃ j, at0 q j ≠ 0
  · obtain ⟨Os, hO, hl, hD⟩ := h.orig
    obtain ⟨o, a, c, ho, ha, hc, _, hz⟩ := at0_prop h Os hO hl hD q hq hn
    have hpr : Prim (at0 q) := hp.resolve_left fun h0 => by
      obtain ⟨j, hj⟩ := hn
      exact hj (h0 j)
    have h1 := hpr.bound _ c (Int.mul_ne_zero hD ha) hc hz j
    have h2 := det_bound b (j :: P.map (·.2)) (o :: Os) (fun R hR d _ => by
      rcases List.mem_cons.1 hR with rfl | hR
      · exact hb _ ho d
      · exact hb R (hO R hR).1 d) (by simp [hl])
    simp only [List.length_cons, List.length_map, prod] at h2
    omega
  · have : at0 q j = 0 := Classical.byContradiction fun hj => hn ⟨j, hj⟩
    rw [this]
    simp
end Go.Proofs.YtojkepidkmkmpaaAlg
namespace Go.Proofs.YtojkepidkmkmpaaAlg

/-- The state of the reduction at column c. -/
structure Red (S : V → Prop) (c : Nat) (P : List (List Int × Nat)) (Q : List (List Int)) : Prop where
  st : St S P Q
  low : ∀ q ∈ Q, ∀ j, j < c → at0 q j = 0
  ncol : ∀ p ∈ P, p.2 < c
  lead : ∀ p ∈ P, ∀ j, j < p.2 → at0 p.1 j = 0
  pos : ∀ p ∈ P, 0 < at0 p.1 p.2
  prim : ∀ p ∈ P, Prim (at0 p.1)
  tq : ∀ q ∈ Q, (∀ j, at0 q j = 0) ∨ (Prim (at0 q) ∧ ∃ k, 0 < at0 q k ∧ ∀ j, j < k → at0 q j = 0)
  sorted : (P.map (·.2)).Pairwise (· > ·)

theorem Red.piv_of {S : V → Prop} {c : Nat} {P : List (List Int × Nat)} {Q : List (List Int)} (h : Red S c P Q) {k : Nat} (hk : k < c) {v : V} (hv : Sp S v) (h0 : ∀ j, j < k → v j = 0) (h1 : v k ≠ 0) : k ∈ P.map (·.2) := by
  refine Classical.byContradiction fun hn => ?_
  have hP := h.st.piv
  have hr : res (common P) P v k = 0 := by
    refine (hv.trans h.st.all).kill (fun v => res (common P) P v k) (res_zero _ P k) (fun u v => res_add _ P u v k) (fun c u => res_mul _ P c u k) fun u hu => ?_
    rcases hu with hu | ⟨q, hq, rfl⟩
    · exact res_span hP (common P) dvd_common (Sp.of hu) k
    · unfold res
      rw [sumOver_zero _ _ fun p hp => by rw [h.st.rest0 q hq p hp]; simp, h.low q hq k hk]
      simp
  unfold res at hr
  rw [sumOver_zero _ _ fun p hp => by
    rcases Nat.lt_trichotomy p.2 k with hlt | heq | hgt
    · rw [h0 _ hlt]; simp
    · exact absurd (List.mem_map.2 ⟨p, hp, heq⟩) hn
    · rw [h.lead p hp k hgt]; simp] at hr
  have : common P * v k = 0 := by omega
  rcases Int.mul_eq_zero.1 this with h | h
  · exact common_ne hP.2.1 h
  · exact h1 h

theorem Red.mem_iff {S : V → Prop} {c : Nat} {P : List (List Int × Nat)} {Q : List (List Int)} (h : Red S c P Q) (k : Nat) : k ∈ P.map (·.2) ↔ k < c ∧ ∃ v, Sp S v ∧ (∀ j, j < k → v j = 0) ∧ v k ≠ 0 := by
  constructor
  · intro hm
    obtain ⟨p, hp, rfl⟩ := List.mem_map.1 hm
    exact ⟨h.ncol p hp, at0 p.1, h.st.inP p hp, h.lead p hp, h.st.piv.2.1 p hp⟩
  · rintro ⟨hk, v, hv, h0, h1⟩
    exact h.piv_of hk hv h0 h1

theorem sorted_eq : ∀ (l l' : List Nat), l.Pairwise (· > ·) → l'.Pairwise (· > ·) → (∀ k, k ∈ l ↔ k ∈ l') → l = l'
  | [], [], _, _, _ => rfl
  | [], b :: l', _, _, h => absurd ((h b).2 (by simp)) (by simp)
  | a :: l, [], _, _, h => absurd ((h a).1 (by simp)) (by simp)
  | a :: l, b :: l', h1, h2, h => by
    have h1' := List.pairwise_cons.1 h1
    have h2' := List.pairwise_cons.1 h2
    have e : a = b := by
      have ha := (h a).1 (by simp)
      have hb := (h b).2 (by simp)
      rcases List.mem_cons.1 ha with e | ha
      · exact e
      · rcases List.mem_cons.1 hb with e | hb
        · exact e.symm
        · have := h1'.1 b hb
          have := h2'.1 a ha
          omega
    subst e
    rw [sorted_eq l l' h1'.2 h2'.2 fun k => ⟨fun hk => ?_, fun hk => ?_⟩]
    · rcases List.mem_cons.1 ((h k).1 (by simp [hk])) with e | h
      · have := h1'.1 k hk; omega
      · exact h
    · rcases List.mem_cons.1 ((h k).2 (by simp [hk])) with e | h
      · have := h2'.1 k hk; omega
      · exact h

theorem Red.cols {S S' : V → Prop} {c : Nat} {P P' : List (List Int × Nat)} {Q Q' : List (List Int)} (h : Red S c P Q) (h' : Red S' c P' Q') (e : ∀ v, Sp S v ↔ Sp S' v) : P.map (·.2) = P'.map (·.2) :=
  sorted_eq _ _ h.sorted h'.sorted fun k => by
    rw [h.mem_iff, h'.mem_iff]
    constructor
    · rintro ⟨hk, v, hv, hh⟩
      exact ⟨hk, v, (e v).1 hv, hh⟩
    · rintro ⟨hk, v, hv, hh⟩
      exact ⟨hk, v, (e v).2 hv, hh⟩

theorem Red.span {S : V → Prop} {c : Nat} {P : List (List Int × Nat)} {Q : List (List Int)} (h : Red S c P Q) (hz : ∀ q ∈ Q, ∀ j, at0 q j = 0) {v : V} (hv : Sp S v) : Sp (PS P) v :=
  (hv.trans h.st.all).trans fun u hu => by
    rcases hu with hu | ⟨q, hq, rfl⟩
    · exact Sp.of hu
    · exact Sp.zero.congr fun j => (hz q hq j).symm

theorem Red.row_eq {S S' : V → Prop} {c : Nat} {P P' : List (List Int × Nat)} {Q Q' : List (List Int)} (h : Red S c P Q) (hz : ∀ q ∈ Q, ∀ j, at0 q j = 0) (h' : Red S' c P' Q') (e : ∀ v, Sp S' v → Sp S v) (hc : P.map (·.2) = P'.map (·.2))
    (p p' : List Int × Nat) (hp : p ∈ P) (hp' : p' ∈ P') (hpp : p.2 = p'.2) (j : Nat) : at0 p.1 j = at0 p'.1 j := by
  have hu : Sp (PS P) (at0 p.1) := Sp.of ⟨p, hp, rfl⟩
  have hv : Sp (PS P) (at0 p'.1) := h.span hz (e _ (h'.st.inP p' hp'))
  have hpr := prop_of_piv h.st.piv hu hv p fun r hr hne => by
    refine ⟨h.st.piv.2.2 p hp r hr (Ne.symm hne), ?_⟩
    have hm : r.2 ∈ P'.map (·.2) := by rw [← hc]; exact List.mem_map_of_mem hr
    obtain ⟨r', hr', e'⟩ := List.mem_map.1 hm
    rw [← e']
    refine h'.st.piv.2.2 p' hp' r' hr' fun e2 => hne ?_
    rw [hpp, e2]
    exact e'.symm
  have h1 := h.pos p hp
  have h2 := h'.pos p' hp'
  rw [← hpp] at h2
  exact (h.prim p hp).eq (h'.prim p' hp') _ _ h2 h1 hpr j

theorem at0_ext {l l' : List Int} (hl : l.length = l'.length) (h : ∀ j, at0 l j = at0 l' j) : l = l' := by
  apply List.ext_getElem hl
  intro i h1 h2
  have := h i
  unfold at0 at this
  rw [List.getD_eq_getElem?_getD, List.getD_eq_getElem?_getD, List.getElem?_eq_getElem h1, List.getElem?_eq_getElem h2] at this
  exact this

theorem at0_out {l : List Int} {j : Nat} (h : l.length ≤ j) : at0 l j = 0 := by
  unfold at0
  rw [List.getD_eq_getElem?_getD, List.getElem?_eq_none h]
  rfl

theorem at0_lt {l : List Int} {j : Nat} (h : j < l.length) : at0 l j = l[j] := by
  unfold at0
  rw [List.getD_eq_getElem?_getD, List.getElem?_eq_getElem h]
  rfl

theorem eq_of_cols : ∀ (P P' : List (List Int × Nat)), P.map (·.2) = P'.map (·.2) → (∀ p ∈ P, ∀ p' ∈ P', p.2 = p'.2 → p.1 = p'.1) → P = P'
  | [], [], _, _ => rfl
  | [], _ :: _, h, _ => by simp at h
  | _ :: _, [], h, _ => by simp at h
  | p :: P, p' :: P', h, k => by
    simp only [List.map_cons, List.cons.injEq] at h
    have e := k p (by simp) p' (by simp) h.1
    rw [eq_of_cols P P' h.2 fun q hq q' hq' => k q (by simp [hq]) q' (by simp [hq'])]
    rw [show p = p' from Prod.ext e h.1]

theorem Red.eq {S S' : V → Prop} {c n : Nat} {P P' : List (List Int × Nat)} {Q Q' : List (List Int)} (h : Red S c P Q) (hz : ∀ q ∈ Q, ∀ j, at0 q j = 0) (h' : Red S' c P' Q') (e : ∀ v, Sp S v ↔ Sp S' v)
    (hn : ∀ p ∈ P, p.1.length = n) (hn' : ∀ p ∈ P', p.1.length = n) : P = P' :=
  eq_of_cols P P' (h.cols h' e) fun p hp p' hp' hpp => at0_ext (by rw [hn p hp, hn' p' hp']) (h.row_eq hz h' (fun v hv => (e v).2 hv) (h.cols h' e) p p' hp hp' hpp)

/-! ### tidy rows -/
def gcdl (l : List Int) : Nat := l.foldl (fun g x => Nat.gcd g x.natAbs) 0
theorem foldl_gcd : ∀ (l : List Int) (g : Nat), l.foldl (fun g x => Nat.gcd g x.natAbs) g = Nat.gcd g (gcdl l)
  | [], g => by simp [gcdl]
  | x :: l, g => by
    unfold gcdl
    simp only [List.foldl_cons]
    rw [foldl_gcd l, foldl_gcd l, Nat.gcd_zero_left, Nat.gcd_assoc]
theorem gcdl_cons (x : Int) (l : List Int) : gcdl (x :: l) = Nat.gcd x.natAbs (gcdl l) := by
  show List.foldl _ (Nat.gcd 0 x.natAbs) l = _
  rw [foldl_gcd, Nat.gcd_zero_left]
theorem gcdl_dvd : ∀ (l : List Int) (j : Nat), (gcdl l : Int) ∣ at0 l j
  | [], j => by simp [at0]
  | x :: l, 0 => by
    rw [gcdl_cons]
    exact Int.ofNat_dvd_left.2 (Nat.gcd_dvd_left _ _)
  | x :: l, j + 1 => by
    rw [gcdl_cons]
    have := gcdl_dvd l j
    exact Int.dvd_trans (Int.natCast_dvd_natCast.2 (Nat.gcd_dvd_right _ _)) this
theorem dvd_gcdl : ∀ (l : List Int) (d : Int), (∀ j, d ∣ at0 l j) → d.natAbs ∣ gcdl l
  | [], d, _ => by simp [gcdl]
  | x :: l, d, h => by
    rw [gcdl_cons]
    refine Nat.dvd_gcd (Int.natAbs_dvd_natAbs.2 (h 0)) (dvd_gcdl l d fun j => h (j + 1))
theorem gcdl_zero (l : List Int) (h : gcdl l = 0) (j : Nat) : at0 l j = 0 := by
  have := gcdl_dvd l j
  rw [h] at this
  simpa using this
/-- The first column that is not 0, or the length. -/
def ld (l : List Int) : Nat := l.findIdx (fun x => x != 0)
theorem ld_le (l : List Int) : ld l ≤ l.length := List.findIdx_le_length
theorem ld_low (l : List Int) (j : Nat) (h : j < ld l) : at0 l j = 0 := by
  have hl := ld_le l
  have := List.not_of_lt_findIdx h
  rw [at0_lt (by omega)]
  simpa using this
theorem ld_ne (l : List Int) (h : ld l < l.length) : at0 l (ld l) ≠ 0 := by
  have := List.findIdx_getElem (w := h)
  rw [at0_lt h]
  have h2 : (l[ld l] != 0) = true := this
  simpa using h2
theorem ld_eq (l : List Int) (k : Nat) (h0 : ∀ j, j < k → at0 l j = 0) (h1 : at0 l k ≠ 0) : ld l = k := by
  have hk : k < l.length := Nat.lt_of_not_le fun h => h1 (at0_out h)
  rcases Nat.lt_trichotomy (ld l) k with h | h | h
  · exact absurd (h0 _ h) (ld_ne l (by omega))
  · exact h
  · exact absurd (ld_low l k h) h1
theorem ld_zero (l : List Int) (h : ∀ j, at0 l j = 0) : ld l = l.length := by
  have hl := ld_le l
  rcases Nat.lt_or_ge (ld l) l.length with h1 | h1
  · exact absurd (h _) (ld_ne l h1)
  · omega
theorem zero_of_ld (l : List Int) (h : ld l = l.length) (j : Nat) : at0 l j = 0 := by
  rcases Nat.lt_or_ge j l.length with h1 | h1
  · exact ld_low l j (by omega)
  · exact at0_out h1
/-- The divisor: with the sign of the first number that is not 0. -/
def sg (l : List Int) : Int := if at0 l (ld l) < 0 then -(gcdl l : Int) else gcdl l
def tid (l : List Int) : List Int := if gcdl l = 0 then l else l.map fun x => x / sg l
theorem tid_len (l : List Int) : (tid l).length = l.length := by
  unfold tid
  split <;> simp
theorem sg_abs (l : List Int) : (sg l).natAbs = gcdl l := by
  unfold sg
  split <;> simp
theorem sg_dvd (l : List Int) (j : Nat) : sg l ∣ at0 l j := by
  have := gcdl_dvd l j
  unfold sg
  split
  · exact Int.neg_dvd.2 this
  · exact this
theorem at0_map (l : List Int) (f : Int → Int) (h : f 0 = 0) (j : Nat) : at0 (l.map f) j = f (at0 l j) := by
  unfold at0
  rw [List.getD_eq_getElem?_getD, List.getD_eq_getElem?_getD, List.getElem?_map]
  cases l[j]? with
  | none => exact h.symm
  | some x => rfl
theorem tid_mul (l : List Int) (h : gcdl l ≠ 0) (j : Nat) : sg l * at0 (tid l) j = at0 l j := by
  unfold tid
  rw [if_neg h, at0_map _ _ (by simp)]
  exact Int.mul_ediv_cancel' (sg_dvd l j)
theorem sg_ne (l : List Int) (h : gcdl l ≠ 0) : sg l ≠ 0 := fun e => h (by rw [← sg_abs, e]; rfl)
theorem tid_prim (l : List Int) (h : gcdl l ≠ 0) : Prim (at0 (tid l)) := by
  intro d hd
  have h1 : (sg l * d).natAbs ∣ gcdl l := dvd_gcdl l _ fun j => by
    rw [← tid_mul l h j]
    exact Int.mul_dvd_mul_left _ (hd j)
  rw [Int.natAbs_mul, sg_abs] at h1
  have h2 : d.natAbs ∣ 1 := Nat.dvd_of_mul_dvd_mul_left (Nat.pos_of_ne_zero h) (by simpa using h1)
  exact Int.natAbs_dvd_natAbs.1 h2
theorem ld_lt (l : List Int) (h : gcdl l ≠ 0) : ld l < l.length := by
  have hl := ld_le l
  refine Nat.lt_of_not_le fun hge => h ?_
  have : (0 : Int).natAbs ∣ gcdl l := dvd_gcdl l 0 fun j => by rw [zero_of_ld l (by omega) j]; exact Int.dvd_refl 0
  simpa using this
theorem tid_pos (l : List Int) (h : gcdl l ≠ 0) : 0 < at0 (tid l) (ld l) := by
  have h1 := tid_mul l h (ld l)
  have h2 := ld_ne l (ld_lt l h)
  have h3 : 0 < gcdl l := Nat.pos_of_ne_zero h
  have h4 : sg l = if at0 l (ld l) < 0 then -(gcdl l : Int) else gcdl l := rfl
  split at h4
  · have h5 : 0 < -sg l := by omega
    refine Int.pos_of_mul_pos_right (a := -sg l) ?_ (by omega)
    rw [Int.neg_mul]
    omega
  · have h5 : 0 < sg l := by omega
    refine Int.pos_of_mul_pos_right (a := sg l) ?_ (by omega)
    omega
theorem tid_low (l : List Int) (j : Nat) (h : j < ld l) : at0 (tid l) j = 0 := by
  have h1 := ld_low l j h
  by_cases hg : gcdl l = 0
  · unfold tid
    rw [if_pos hg, h1]
  · have := tid_mul l hg j
    rw [h1] at this
    exact (Int.mul_eq_zero.1 this).resolve_left (sg_ne l hg)
theorem tid_tq (l : List Int) : (∀ j, at0 (tid l) j = 0) ∨ (Prim (at0 (tid l)) ∧ ∃ k, 0 < at0 (tid l) k ∧ ∀ j, j < k → at0 (tid l) j = 0) := by
  by_cases h : gcdl l = 0
  · left
    unfold tid
    rw [if_pos h]
    exact gcdl_zero l h
  · exact .inr ⟨tid_prim l h, ld l, tid_pos l h, fun j hj => tid_low l j hj⟩
theorem tid_fac (l : List Int) : ∃ g, g ≠ 0 ∧ ∀ j, g * at0 (tid l) j = at0 l j := by
  by_cases h : gcdl l = 0
  · refine ⟨1, by decide, fun j => ?_⟩
    unfold tid
    rw [if_pos h, Int.one_mul]
  · exact ⟨sg l, sg_ne l h, tid_mul l h⟩
/-- A tidy row stays. -/
theorem tid_tidy (l : List Int) (hp : Prim (at0 l)) (k : Nat) (h1 : 0 < at0 l k) (h0 : ∀ j, j < k → at0 l j = 0) : tid l = l := by
  have hl : ld l = k := ld_eq l k h0 (by omega)
  have hg : (gcdl l : Int) ∣ 1 := hp _ (gcdl_dvd l)
  have hg' : gcdl l = 1 := by
    have := Int.ofNat_dvd_left.1 hg
    simpa using this
  unfold tid sg
  rw [hl, hg', if_neg (by decide), if_neg (by omega)]
  simp

/-! ### one row less another -/
def comb (r q : List Int) (k : Nat) : List Int := List.zipWith (fun x y => x * at0 q k - y * at0 r k) r q
theorem comb_len (r q : List Int) (k : Nat) (h : r.length = q.length) : (comb r q k).length = r.length := by
  unfold comb
  rw [List.length_zipWith]
  omega
theorem comb_at (r q : List Int) (k : Nat) (h : r.length = q.length) (j : Nat) : at0 (comb r q k) j = at0 r j * at0 q k - at0 q j * at0 r k := by
  rcases Nat.lt_or_ge j r.length with h1 | h1
  · rw [at0_lt (by rw [comb_len r q k h]; exact h1), at0_lt h1, at0_lt (l := q) (j := j) (by omega)]
    unfold comb
    rw [List.getElem_zipWith]
  · rw [at0_out (by rw [comb_len r q k h]; exact h1), at0_out h1, at0_out (l := q) (j := j) (by omega)]
    simp
def clr (k : Nat) (q r : List Int) : List Int := if at0 r k = 0 then r else tid (comb r q k)
theorem clr_len (k : Nat) (q r : List Int) (h : r.length = q.length) : (clr k q r).length = r.length := by
  unfold clr
  split
  · rfl
  · rw [tid_len, comb_len r q k h]
theorem clr_fac (k : Nat) (q r : List Int) (h : r.length = q.length) (hq : at0 q k ≠ 0) : ∃ g α β : Int, g ≠ 0 ∧ α ≠ 0 ∧ (∀ j, g * at0 (clr k q r) j = α * at0 r j - β * at0 q j) ∧ at0 (clr k q r) k = 0 := by
  unfold clr
  split
  · rename_i h0
    exact ⟨1, 1, 0, by decide, by decide, fun j => by omega, h0⟩
  · obtain ⟨g, hg, e⟩ := tid_fac (comb r q k)
    refine ⟨g, at0 q k, at0 r k, hg, hq, fun j => ?_, ?_⟩
    · rw [e j, comb_at r q k h, Int.mul_comm (at0 q k), Int.mul_comm (at0 r k)]
    · have := e k
      rw [comb_at r q k h, Int.mul_comm (at0 r k), Int.sub_self] at this
      exact (Int.mul_eq_zero.1 this).resolve_left hg
theorem clr_lead (k c : Nat) (q r : List Int) (h : r.length = q.length) (hc : 0 < at0 q c) (hq : ∀ j, j ≤ k → at0 q j = 0) (hr : ∀ j, j < k → at0 r j = 0) (hp : 0 < at0 r k) (hpr : Prim (at0 r)) : (∀ j, j < k → at0 (clr c q r) j = 0) ∧ 0 < at0 (clr c q r) k ∧ Prim (at0 (clr c q r)) := by
  unfold clr
  split
  · exact ⟨hr, hp, hpr⟩
  · have h0 : ∀ j, j < k → at0 (comb r q c) j = 0 := fun j hj => by
      rw [comb_at r q c h, hr j hj, hq j (by omega)]
      simp
    have h1 : 0 < at0 (comb r q c) k := by
      rw [comb_at r q c h, hq k (by omega)]
      have := Int.mul_pos hp hc
      omega
    have hg : gcdl (comb r q c) ≠ 0 := fun e => by
      have := gcdl_zero _ e k
      omega
    have hl := ld_eq _ k h0 (by omega)
    refine ⟨fun j hj => tid_low _ j (by omega), ?_, tid_prim _ hg⟩
    have := tid_pos _ hg
    rwa [hl] at this
theorem clr_tq (k : Nat) (q r : List Int) (h : (∀ j, at0 r j = 0) ∨ (Prim (at0 r) ∧ ∃ k, 0 < at0 r k ∧ ∀ j, j < k → at0 r j = 0)) :
    (∀ j, at0 (clr k q r) j = 0) ∨ (Prim (at0 (clr k q r)) ∧ ∃ i, 0 < at0 (clr k q r) i ∧ ∀ j, j < i → at0 (clr k q r) j = 0) := by
  unfold clr
  split
  · exact h
  · exact tid_tq _

/-- One step at a column with a pivot. -/
theorem Red.step {S : V → Prop} {c n : Nat} {P : List (List Int × Nat)} {Q Q' : List (List Int)} (h : Red S c P Q) (hlP : ∀ p ∈ P, p.1.length = n) (hlQ : ∀ q ∈ Q, q.length = n) (q : List Int) (hc : at0 q c ≠ 0) (hq : q ∈ Q)
    (hQ : ∀ x ∈ Q, x = q ∨ x ∈ Q') (hQ' : ∀ x ∈ Q', x ∈ Q) : Red S (c + 1) ((q, c) :: P.map fun p => (clr c q p.1, p.2)) (Q'.map (clr c q)) := by
  have hst := h.st.step q c hc hq hQ hQ' (clr c q) fun r hr => clr_fac c q r (by
    rcases hr with ⟨p, hp, rfl⟩ | hr
    · rw [hlP p hp, hlQ q hq]
    · rw [hlQ r (hQ' r hr), hlQ q hq]) hc
  have hqp : Prim (at0 q) ∧ 0 < at0 q c := by
    rcases h.tq q hq with h0 | ⟨hp, k, hk, hl⟩
    · exact absurd (h0 c) hc
    · refine ⟨hp, ?_⟩
      have h1 : c ≤ k := Nat.le_of_not_lt fun hlt => by
        have := h.low q hq k hlt
        omega
      have h2 : k ≤ c := Nat.le_of_not_lt fun hlt => hc (hl c hlt)
      have : k = c := by omega
      rw [← this]
      exact hk
  have hcl : ∀ p ∈ P, (∀ j, j < p.2 → at0 (clr c q p.1) j = 0) ∧ 0 < at0 (clr c q p.1) p.2 ∧ Prim (at0 (clr c q p.1)) := fun p hp => by
    have hn := h.ncol p hp
    exact clr_lead p.2 c q p.1 (by rw [hlP p hp, hlQ q hq]) hqp.2 (fun j hj => h.low q hq j (by omega)) (h.lead p hp) (h.pos p hp) (h.prim p hp)
  refine ⟨hst, ?_, ?_, ?_, ?_, ?_, ?_, ?_⟩
  · intro r hr j hj
    replace hr := List.mem_map.1 hr
    obtain ⟨r, hr, rfl⟩ := hr
    have hrl := hQ' r hr
    obtain ⟨g, α, β, hg, _, e, h0⟩ := clr_fac c q r (by rw [hlQ r hrl, hlQ q hq]) hc
    by_cases ej : j = c
    · rw [ej, h0]
    · have := e j
      rw [h.low r hrl j (by omega), h.low q hq j (by omega)] at this
      have : g * at0 (clr c q r) j = 0 := by omega
      exact (Int.mul_eq_zero.1 this).resolve_left hg
  · intro p hp
    replace hp := List.mem_cons.1 hp
    rcases hp with rfl | hp
    · exact Nat.lt_succ_self _
    · replace hp := List.mem_map.1 hp
      obtain ⟨p, hp, rfl⟩ := hp
      have := h.ncol p hp
      show p.2 < c + 1
      omega
  · intro p hp j hj
    replace hp := List.mem_cons.1 hp
    rcases hp with rfl | hp
    · exact h.low q hq j hj
    · replace hp := List.mem_map.1 hp
      obtain ⟨p, hp, rfl⟩ := hp
      exact (hcl p hp).1 j hj
  · intro p hp
    replace hp := List.mem_cons.1 hp
    rcases hp with rfl | hp
    · exact hqp.2
    · replace hp := List.mem_map.1 hp
      obtain ⟨p, hp, rfl⟩ := hp
      exact (hcl p hp).2.1
  · intro p hp
    replace hp := List.mem_cons.1 hp
    rcases hp with rfl | hp
    · exact hqp.1
    · replace hp := List.mem_map.1 hp
      obtain ⟨p, hp, rfl⟩ := hp
      exact (hcl p hp).2.2
  · intro r hr
    replace hr := List.mem_map.1 hr
    obtain ⟨r, hr, rfl⟩ := hr
    exact clr_tq c q r (h.tq r (hQ' r hr))
  · simp only [List.map_cons, List.map_map]
    refine List.pairwise_cons.2 ⟨fun k hk => ?_, ?_⟩
    · obtain ⟨p, hp, rfl⟩ := List.mem_map.1 hk
      exact h.ncol p hp
    · exact h.sorted

/-- A column without a pivot. -/
theorem Red.skip {S : V → Prop} {c : Nat} {P : List (List Int × Nat)} {Q : List (List Int)} (h : Red S c P Q) (h0 : ∀ q ∈ Q, at0 q c = 0) : Red S (c + 1) P Q :=
  ⟨h.st, fun q hq j hj => by
    by_cases e : j = c
    · rw [e]; exact h0 q hq
    · exact h.low q hq j (by omega), fun p hp => by have := h.ncol p hp; omega, h.lead, h.pos, h.prim, h.tq, h.sorted⟩

def RowSp (m : List (List Int)) : V → Prop := fun v => ∃ r ∈ m, at0 r = v

theorem Red.start (m : List (List Int)) : Red (RowSp m) 0 [] (m.map tid) := by
  refine ⟨St.start _ _ (fun q hq => ?_) (fun v hv => ?_), fun q _ j hj => by omega, by simp, by simp, by simp, by simp, fun q hq => ?_, by simp⟩
  · obtain ⟨r, hr, rfl⟩ := List.mem_map.1 hq
    obtain ⟨g, hg, e⟩ := tid_fac r
    exact ⟨at0 r, ⟨r, hr, rfl⟩, g, hg, e⟩
  · obtain ⟨r, hr, rfl⟩ := hv
    obtain ⟨g, hg, e⟩ := tid_fac r
    exact ⟨tid r, List.mem_map_of_mem hr, g, hg, e⟩
  · obtain ⟨r, hr, rfl⟩ := List.mem_map.1 hq
    exact tid_tq r
end Go.Proofs.YtojkepidkmkmpaaAlg
namespace Go.Proofs.YtojkepidkmkmpaaAlg
def bnd (m : Nat) (j : Nat) : Nat := if j < m then 2 else 1000
theorem prod_small (m : Nat) : ∀ (l : List Nat), (∀ k ∈ l, k < m) → prod (bnd m) l = 2 ^ l.length
  | [], _ => rfl
  | a :: l, h => by
    simp only [prod, List.length_cons]
    rw [prod_small m l fun k hk => h k (by simp [hk])]
    unfold bnd
    rw [if_pos (h a (by simp)), Nat.pow_succ, Nat.mul_comm]
theorem len_sorted : ∀ (l : List Nat) (c : Nat), l.Pairwise (· > ·) → (∀ k ∈ l, k < c) → l.length ≤ c
  | [], c, _, _ => by simp
  | a :: l, c, h, hc => by
    have h' := List.pairwise_cons.1 h
    have := len_sorted l a h'.2 fun k hk => h'.1 k hk
    have := hc a (by simp)
    simp only [List.length_cons]
    omega
theorem Red.len {S : V → Prop} {c : Nat} {P : List (List Int × Nat)} {Q : List (List Int)} (h : Red S c P Q) : P.length ≤ c := by
  have := len_sorted _ c h.sorted fun k hk => by
    obtain ⟨p, hp, rfl⟩ := List.mem_map.1 hk
    exact h.ncol p hp
  simpa using this
theorem fp_le : ∀ n, n < 7 → fct n * 2 ^ n ≤ 46080 ∧ fct n * 2 ^ (n - 1) * 1000 ≤ 23040000 ∧ fct (n + 1) * 2 ^ n * 1000 ≤ 322560000 ∧ fct n * 2 ^ (n - 1) * 2 ≤ 46080 := by decide
theorem bnd_le (m j : Nat) : bnd m j ≤ 1000 := by unfold bnd; split <;> omega
theorem Red.small_rest {S : V → Prop} {c m : Nat} {P : List (List Int × Nat)} {Q : List (List Int)} (h : Red S c P Q) (hb : ∀ o, S o → ∀ j, (o j).natAbs ≤ bnd m j) (hc : c ≤ m) (hm : m ≤ 6) (q : List Int) (hq : q ∈ Q) (j : Nat) : (at0 q j).natAbs ≤ 322560000 := by
  have hl := h.len
  have h1 := h.st.bound_rest (bnd m) hb q hq (by
    rcases h.tq q hq with h | h
    · exact .inl h
    · exact .inr h.1) j
  rw [prod_small m _ fun k hk => by
    obtain ⟨p, hp, rfl⟩ := List.mem_map.1 hk
    have := h.ncol p hp
    omega, List.length_map] at h1
  have h2 := (fp_le P.length (by omega)).2.2.1
  have h3 : fct (P.length + 1) * (bnd m j * 2 ^ P.length) ≤ fct (P.length + 1) * (1000 * 2 ^ P.length) := Nat.mul_le_mul_left _ (Nat.mul_le_mul_right _ (bnd_le m j))
  have h4 : fct (P.length + 1) * (1000 * 2 ^ P.length) = fct (P.length + 1) * 2 ^ P.length * 1000 := by
    rw [Nat.mul_comm 1000, Nat.mul_assoc]
  omega
/-- All pivots divide D, and the rows over it are small. -/
theorem Red.small_piv {S : V → Prop} {c m : Nat} {P : List (List Int × Nat)} {Q : List (List Int)} (h : Red S c P Q) (hb : ∀ o, S o → ∀ j, (o j).natAbs ≤ bnd m j) (hc : c ≤ m) (hm : m ≤ 6) :
    ∃ D : Int, 0 < D ∧ D ≤ 46080 ∧ ∀ p ∈ P, ∃ e : Int, 0 < e ∧ D = at0 p.1 p.2 * e ∧ (∀ j, j < m → (e * at0 p.1 j).natAbs ≤ 46080) ∧ ∀ j, (e * at0 p.1 j).natAbs ≤ 23040000 := by
  have hl := h.len
  obtain ⟨D, hD, hDb, hh⟩ := h.st.bound_piv (bnd m) hb h.prim
  have hk : ∀ k ∈ P.map (·.2), k < m := fun k hk => by
    obtain ⟨p, hp, rfl⟩ := List.mem_map.1 hk
    have := h.ncol p hp
    omega
  rw [prod_small m _ hk, List.length_map] at hDb
  have h2 := fp_le P.length (by omega)
  refine ⟨D.natAbs, by omega, by omega, fun p hp => ?_⟩
  obtain ⟨e, he, hj⟩ := hh p hp
  have hpos := h.pos p hp
  have hnn : (e.natAbs : Int) * at0 p.1 p.2 = D.natAbs := by
    rw [he, Int.natAbs_mul, Int.natCast_mul, Int.mul_comm]
    congr 1
    omega
  have hj' : ∀ j, ((e.natAbs : Int) * at0 p.1 j).natAbs ≤ fct P.length * (bnd m j * 2 ^ (P.length - 1)) := fun j => by
    have := hj j
    rw [prod_small m _ fun k h => hk k (List.mem_of_mem_erase h), List.length_erase_of_mem (List.mem_map_of_mem hp), List.length_map] at this
    rw [Int.natAbs_mul] at this ⊢
    simpa using this
  have he0 : e ≠ 0 := fun e0 => hD (by rw [he, e0, Int.mul_zero])
  refine ⟨e.natAbs, by omega, by rw [← hnn, Int.mul_comm], fun j hjm => ?_, fun j => ?_⟩
  · have h3 := hj' j
    have h4 : bnd m j = 2 := by unfold bnd; rw [if_pos hjm]
    rw [h4] at h3
    have h5 : fct P.length * (2 * 2 ^ (P.length - 1)) = fct P.length * 2 ^ (P.length - 1) * 2 := by rw [Nat.mul_comm 2, Nat.mul_assoc]
    omega
  · have h3 := hj' j
    have h4 : fct P.length * (bnd m j * 2 ^ (P.length - 1)) ≤ fct P.length * (1000 * 2 ^ (P.length - 1)) := Nat.mul_le_mul_left _ (Nat.mul_le_mul_right _ (bnd_le m j))
    have h5 : fct P.length * (1000 * 2 ^ (P.length - 1)) = fct P.length * 2 ^ (P.length - 1) * 1000 := by rw [Nat.mul_comm 1000, Nat.mul_assoc]
    omega
theorem Red.small_piv' {S : V → Prop} {c m : Nat} {P : List (List Int × Nat)} {Q : List (List Int)} (h : Red S c P Q) (hb : ∀ o, S o → ∀ j, (o j).natAbs ≤ bnd m j) (hc : c ≤ m) (hm : m ≤ 6) (p : List Int × Nat) (hp : p ∈ P) (j : Nat) : (at0 p.1 j).natAbs ≤ 23040000 := by
  obtain ⟨D, _, _, hh⟩ := h.small_piv hb hc hm
  obtain ⟨e, he, _, _, hj⟩ := hh p hp
  have := hj j
  rw [Int.natAbs_mul] at this
  have : 1 * (at0 p.1 j).natAbs ≤ e.natAbs * (at0 p.1 j).natAbs := Nat.mul_le_mul_right _ (by omega)
  omega
end Go.Proofs.YtojkepidkmkmpaaAlg
