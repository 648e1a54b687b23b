/-
  Words for rows of numbers that lie apart from each other, with a row of slices that leads to them: what the walk of a reduction keeps of memory.
  Conditions: none of its own.
-/
import Derived.Test.YtojkepidkmkmpaaDelete
import Derived.Test.YtojkepidkmkmpaaWMore
import Derived.Test.YtojkepidkmkmpaaWKept
import Derived.Test.YtojkepidkmkmpaaWWords
import Derived.Test.YtojkepidkmkmpaaWApart
import Derived.Lib.OwnBridge
import Derived.WalkKit
namespace Go.Proofs
theorem Try.prog_info23 : (Try.prog.info? 23).map (fun i => i.size) = some 1 := by kernel_rfl
end Go.Proofs
namespace Go.Proofs.YtojkepidkmkmpaaRed
open Go.RowKit Go.Proofs.YtojkepidkmkmpaaW.PrintWords
/-- A row of n numbers: block and capacity. -/
def sv (n : Nat) (p : Nat × Nat) : Value := .slice (some ⟨p.1, 0, none⟩) n p.2
def SK (n : Nat) : Kd (Nat × Nat) := Kd.scalar (sv n) (fun _ => rfl)
def RowIs (w : World) (base n : Nat) (p : Nat × Nat) (x : List Int) : Prop := Kd.R (Kd.int .i64) 3 w base (fun k => k = p.1) (sv n p) x
structure RowsAre (w : World) (base n : Nat) (ps : List (Nat × Nat)) (xs : List (List Int)) : Prop where
  len : ps.length = xs.length
  row : ∀ (i : Nat) (p : Nat × Nat) (x : List Int), ps[i]? = some p → xs[i]? = some x → RowIs w base n p x
def Spine (w : World) (base n : Nat) (v : Value) (ps : List (Nat × Nat)) : Prop := (SK n).R 23 w base (fun k => some k = v.ownBlock) v ps

theorem RowIs.len {w : World} {base n : Nat} {p : Nat × Nat} {x : List Int} (h : RowIs w base n p x) : x.length = n := by
  obtain ⟨A, c, e, _⟩ := Kd.R_slice h |>.elim fun A h => h.elim fun c h => (⟨A, c, h, trivial⟩ : ∃ A c, sv n p = .slice A x.length c ∧ True)
  unfold sv at e
  injection e with _ h2 _
  exact h2.symm
theorem RowIs.typed {w : World} {base n : Nat} {p : Nat × Nat} {x : List Int} (h : RowIs w base n p x) : ∃ cells, w.heap[p.1]? = some (.cells cells 3 (0, 0)) := Kd.R_typed h p.1 rfl
theorem RowIs.lt {w : World} {base n : Nat} {p : Nat × Nat} {x : List Int} (h : RowIs w base n p x) : p.1 < w.heap.size := Kd.R_lt h p.1 rfl
theorem RowIs.base {w : World} {base n : Nat} {p : Nat × Nat} {x : List Int} (h : RowIs w base n p x) : base ≤ p.1 := Kd.R_base h p.1 rfl
theorem RowIs.kept {w w' : World} {base n : Nat} {p : Nat × Nat} {x : List Int} (h : RowIs w base n p x) {S : Nat → Prop} (hk : Kept w w' S) (hn : ¬ S p.1) : RowIs w' base n p x :=
  Kd.R_kept h hk fun k hk => by rw [hk]; exact hn
theorem Spine.kept {w w' : World} {base n : Nat} {v : Value} {ps : List (Nat × Nat)} (h : Spine w base n v ps) {S : Nat → Prop} (hk : Kept w w' S) (hn : ∀ k, v.ownBlock = some k → ¬ S k) : Spine w' base n v ps :=
  Kd.R_kept h hk fun k hk => hn k hk.symm
theorem Spine.typed {w : World} {base n : Nat} {v : Value} {ps : List (Nat × Nat)} (h : Spine w base n v ps) : ∀ k, v.ownBlock = some k → ∃ cells, w.heap[k]? = some (.cells cells 23 (0, 0)) := Kd.R_typed h
theorem Spine.lt {w : World} {base n : Nat} {v : Value} {ps : List (Nat × Nat)} (h : Spine w base n v ps) : ∀ k, v.ownBlock = some k → k < w.heap.size := Kd.R_lt h
theorem Spine.base {w : World} {base n : Nat} {v : Value} {ps : List (Nat × Nat)} (h : Spine w base n v ps) : ∀ k, v.ownBlock = some k → base ≤ k := Kd.R_base h
/-- A row's block is no spine's. -/
theorem Spine.apart {w : World} {base n : Nat} {v : Value} {ps : List (Nat × Nat)} (h : Spine w base n v ps) {p : Nat × Nat} {x : List Int} (hr : RowIs w base n p x) : v.ownBlock ≠ some p.1 := fun e => by
  obtain ⟨c1, h1⟩ := h.typed p.1 e
  obtain ⟨c2, h2⟩ := hr.typed
  rw [h1] at h2
  injection h2 with h2
  injection h2 with _ h2
  exact absurd h2 (by decide)
theorem Spine.form {w : World} {base n : Nat} {v : Value} {ps : List (Nat × Nat)} (h : Spine w base n v ps) : ∃ A c, v = .slice A ps.length c ∧ ps.length ≤ c := by
  obtain ⟨A, c, e, hl, _⟩ := Kd.R_reads h
  exact ⟨A, c, e, hl⟩
theorem Spine.at_ {w : World} {base n N : Nat} {A : Option Addr} {c : Nat} {ps : List (Nat × Nat)} (h : Spine w base n (.slice A N c) ps) (i : Int) (h0 : 0 ≤ i) (h1 : i < N) :
    ∃ ad p, A = some ad ∧ ps[i.toNat]? = some p ∧ w.cell? (ad.add i.toNat) = some (.slice (some ⟨p.1, 0, none⟩) n p.2) := by
  obtain ⟨hN, _, hC⟩ := Kd.R_reads' h
  subst hN
  obtain ⟨ad, e, hc⟩ := ReadsOf.at_ (Kd.reads_of_C (enc := sv n) (d := ((0, 0) : Nat × Nat)) (h1 := fun _ => rfl) hC) i h0 h1
  have hi : i.toNat < ps.length := by omega
  refine ⟨ad, ps[i.toNat], e, List.getElem?_eq_getElem hi, ?_⟩
  rw [hc]
  unfold rdOf
  rw [List.getD_eq_getElem?_getD, List.getElem?_eq_getElem hi]
  rfl
theorem Spine.atN {w : World} {base n N : Nat} {A : Option Addr} {c : Nat} {ps : List (Nat × Nat)} (h : Spine w base n (.slice A N c) ps) (i : Nat) (h1 : i < N) :
    ∃ ad p, A = some ad ∧ ps[i]? = some p ∧ w.cell? (ad.add i) = some (.slice (some ⟨p.1, 0, none⟩) n p.2) := by
  obtain ⟨ad, p, h⟩ := h.at_ (i : Int) (by omega) (by omega)
  rw [Int.toNat_natCast] at h
  exact ⟨ad, p, h⟩
theorem Spine.formN {w : World} {base n N : Nat} {A : Option Addr} {c : Nat} {ps : List (Nat × Nat)} (h : Spine w base n (.slice A N c) ps) (h0 : 0 < N) :
    ∃ g, A = some ⟨g, 0, none⟩ ∧ base ≤ g ∧ ∀ i, i < N → ∃ p, ps[i]? = some p ∧ w.cell? ⟨g, i, none⟩ = some (.slice (some ⟨p.1, 0, none⟩) n p.2) := by
  have hN := (Kd.R_reads' h).1
  obtain ⟨g, cap, e, hb, _⟩ := Kd.R_form h (by omega)
  injection e with e1 _ _
  subst e1
  refine ⟨g, rfl, hb, fun i hi => ?_⟩
  obtain ⟨ad, p, e2, hp, hc⟩ := h.atN i hi
  injection e2 with e2
  subst e2
  refine ⟨p, hp, ?_⟩
  rw [add_plain] at hc
  exact hc
theorem cell_new (w : World) (v : Value) (T : TypeId) : (w.alloc (.cells #[v] T)).cell? ⟨w.heap.size, 0, none⟩ = some v := by
  have h := heap_alloc_new w (.cells #[v] T)
  unfold World.cell?
  simp only [h]
  rfl
theorem drawn_kept {w w' : World} {o : Obj} (h : Drawn0 (w.alloc o) w') (S : Nat → Prop) : Kept w w' S := by
  obtain ⟨n, rfl⟩ := h
  exact ((Kept.refl w S).alloc o).drewN n
theorem drawn_below {w0 w w' : World} {o : Obj} (h : Drawn0 (w.alloc o) w') (hb : Below w0.heap.size w0 w) : Below w0.heap.size w0 w' := by
  obtain ⟨n, rfl⟩ := h
  exact pw_below_drewN (below_alloc hb o) n
theorem drawn_cell {w w' : World} {a : Addr} {v : Value} (h : Drawn0 w w') (hc : w.cell? a = some v) : w'.cell? a = some v := by
  obtain ⟨n, rfl⟩ := h
  exact hc
theorem one_C {w : World} {b : Nat} {A : Option Addr} {c : Nat} {l : List Int} (h : (Kd.int .i64).C w A l.length l) (hc : l.length ≤ c) (hcell : w.cell? ⟨b, 0, none⟩ = some (.slice A l.length c)) : (Kd.slice 3 (Kd.int .i64)).C w (some ⟨b, 0, none⟩) [l].length [l] := by
  refine ⟨rfl, by simp, fun _ => ⟨⟨b, 0, none⟩, rfl, fun j p hj => ?_⟩⟩
  cases j with
  | succ j => simp at hj
  | zero =>
    simp only [List.getElem?_cons_zero, Option.some.injEq] at hj
    subst hj
    refine ⟨[.slice A l.length c], rfl, ⟨A, c, rfl, hc, h⟩, fun i u hu => ?_⟩
    cases i with
    | succ i => simp at hu
    | zero =>
      simp only [List.getElem?_cons_zero, Option.some.injEq] at hu
      subst hu
      simpa [add_plain] using hcell
def off (a b : Nat) : Nat → Nat
  | 0 => 0
  | 1 => a
  | _ => a + b
theorem perm_move {ps qs : List (Nat × Nat)} {i : Nat} {p : Nat × Nat} (hp : ps[i]? = some p) (h : ((ps ++ qs).map (·.1)).Nodup) : ((ps.eraseIdx i ++ (qs ++ [p])).map (·.1)).Nodup := by
  obtain ⟨hi, rfl⟩ := List.getElem?_eq_some_iff.1 hp
  have h1 : (ps.eraseIdx i ++ (qs ++ [ps[i]])).Perm (ps ++ qs) := by
    have h2 : (ps[i] :: ps.eraseIdx i).Perm ps := by
      have e : ps = ps.take i ++ ps[i] :: ps.drop (i + 1) := by rw [← List.drop_eq_getElem_cons hi, List.take_append_drop]
      have h4 := (List.perm_middle (a := ps[i]) (l₁ := ps.take i) (l₂ := ps.drop (i + 1))).symm
      rw [← e] at h4
      rw [List.eraseIdx_eq_take_drop_succ]
      exact h4
    have h3 : (ps.eraseIdx i ++ (qs ++ [ps[i]])).Perm (ps[i] :: (ps.eraseIdx i ++ qs)) := by
      rw [← List.append_assoc]
      exact List.perm_append_singleton _ _
    exact h3.trans ((List.Perm.append_right qs h2))
  exact ((h1.map (·.1)).nodup_iff).2 h
theorem nodup_erase {ps qs : List (Nat × Nat)} {i : Nat} {p : Nat × Nat} (hp : ps[i]? = some p) (h : ((ps ++ qs).map (·.1)).Nodup) : ((ps.eraseIdx i ++ qs).map (·.1)).Nodup ∧ ∀ q ∈ ps.eraseIdx i ++ qs, q.1 ≠ p.1 := by
  have h1 := perm_move hp h
  rw [← List.append_assoc, List.map_append] at h1
  have h2 := List.nodup_append.1 h1
  refine ⟨h2.1, fun q hq => ?_⟩
  exact h2.2.2 _ (List.mem_map_of_mem hq) _ (by simp)
theorem Spine.nil (w : World) (base n : Nat) : Spine w base n (.slice none 0 0) [] := Kd.R_nil _ _ _ _ _
theorem RowsAre.nil (w : World) (base n : Nat) : RowsAre w base n [] [] := ⟨rfl, fun i p x h => by simp at h⟩
theorem RowsAre.kept {w w' : World} {base n : Nat} {ps : List (Nat × Nat)} {xs : List (List Int)} (h : RowsAre w base n ps xs) {S : Nat → Prop} (hk : Kept w w' S) (hn : ∀ p ∈ ps, ¬ S p.1) : RowsAre w' base n ps xs :=
  ⟨h.len, fun i p x hp hx => (h.row i p x hp hx).kept hk (hn p (List.mem_of_getElem? hp))⟩
theorem RowsAre.get {w : World} {base n : Nat} {ps : List (Nat × Nat)} {xs : List (List Int)} (h : RowsAre w base n ps xs) {i : Nat} {p : Nat × Nat} (hp : ps[i]? = some p) : ∃ x, xs[i]? = some x ∧ RowIs w base n p x := by
  have hi : i < xs.length := by rw [← h.len]; exact (List.getElem?_eq_some_iff.1 hp).1
  exact ⟨xs[i], List.getElem?_eq_getElem hi, h.row i p _ hp (List.getElem?_eq_getElem hi)⟩
theorem RowsAre.mem {w : World} {base n : Nat} {ps : List (Nat × Nat)} {xs : List (List Int)} (h : RowsAre w base n ps xs) {p : Nat × Nat} (hp : p ∈ ps) : ∃ x, RowIs w base n p x := by
  obtain ⟨i, hi⟩ := List.getElem?_of_mem hp
  obtain ⟨x, _, hx⟩ := h.get hi
  exact ⟨x, hx⟩
theorem RowsAre.append {w : World} {base n : Nat} {ps qs : List (Nat × Nat)} {xs ys : List (List Int)} (h : RowsAre w base n ps xs) (k : RowsAre w base n qs ys) : RowsAre w base n (ps ++ qs) (xs ++ ys) := by
  refine ⟨by rw [List.length_append, List.length_append, h.len, k.len], fun i p x hp hx => ?_⟩
  rcases Nat.lt_or_ge i ps.length with hi | hi
  · rw [List.getElem?_append_left hi] at hp
    rw [List.getElem?_append_left (by rw [← h.len]; exact hi)] at hx
    exact h.row i p x hp hx
  · rw [List.getElem?_append_right hi] at hp
    rw [List.getElem?_append_right (by rw [← h.len]; exact hi), ← h.len] at hx
    exact k.row _ p x hp hx
theorem RowsAre.left {w : World} {base n : Nat} {ps qs : List (Nat × Nat)} {xs ys : List (List Int)} (h : RowsAre w base n (ps ++ qs) (xs ++ ys)) (hl : ps.length = xs.length) : RowsAre w base n ps xs :=
  ⟨hl, fun i p x hp hx => h.row i p x (by rw [List.getElem?_append_left (List.getElem?_eq_some_iff.1 hp).1]; exact hp) (by rw [List.getElem?_append_left (List.getElem?_eq_some_iff.1 hx).1]; exact hx)⟩
theorem RowsAre.right {w : World} {base n : Nat} {ps qs : List (Nat × Nat)} {xs ys : List (List Int)} (h : RowsAre w base n (ps ++ qs) (xs ++ ys)) (hl : ps.length = xs.length) : RowsAre w base n qs ys := by
  have h2 := h.len
  rw [List.length_append, List.length_append] at h2
  refine ⟨by omega, fun i p x hp hx => h.row (ps.length + i) p x ?_ ?_⟩
  · rw [List.getElem?_append_right (by omega), Nat.add_sub_cancel_left]; exact hp
  · rw [List.getElem?_append_right (by omega), hl, Nat.add_sub_cancel_left]; exact hx
theorem RowsAre.erase {w : World} {base n : Nat} {ps : List (Nat × Nat)} {xs : List (List Int)} (h : RowsAre w base n ps xs) (j : Nat) : RowsAre w base n (ps.eraseIdx j) (xs.eraseIdx j) := by
  refine ⟨by rw [List.length_eraseIdx, List.length_eraseIdx, h.len], fun i p x hp hx => ?_⟩
  rw [List.getElem?_eraseIdx] at hp hx
  split at hp
  · rename_i hi; rw [if_pos hi] at hx; exact h.row _ p x hp hx
  · rename_i hi; rw [if_neg hi] at hx; exact h.row _ p x hp hx

/-- The first m of ys, then those of xs. -/
def mix (xs ys : List (List Int)) (m : Nat) : List (List Int) := ys.take m ++ xs.drop m
theorem mix_zero (xs ys : List (List Int)) : mix xs ys 0 = xs := by simp [mix]
theorem mix_all (xs ys : List (List Int)) (h : xs.length = ys.length) : mix xs ys xs.length = ys := by
  unfold mix
  rw [List.drop_length, List.append_nil, h, List.take_length]
theorem mix_len (xs ys : List (List Int)) (m : Nat) (h : xs.length = ys.length) : (mix xs ys m).length = xs.length := by
  simp only [mix, List.length_append, List.length_take, List.length_drop]
  omega
theorem mix_get (xs ys : List (List Int)) (m i : Nat) (h : xs.length = ys.length) : (mix xs ys m)[i]? = if i < m then ys[i]? else xs[i]? := by
  unfold mix
  by_cases hi : i < m
  · rw [if_pos hi]
    by_cases h2 : i < ys.length
    · rw [List.getElem?_append_left (by rw [List.length_take]; omega), List.getElem?_take, if_pos hi]
    · rw [List.getElem?_append_right (by rw [List.length_take]; omega), List.getElem?_eq_none (l := ys) (by omega), List.getElem?_eq_none]
      rw [List.length_drop, List.length_take]
      omega
  · rw [if_neg hi]
    by_cases h2 : i < ys.length
    · rw [List.getElem?_append_right (by rw [List.length_take]; omega), List.length_take, List.getElem?_drop]
      congr 1
      omega
    · rw [List.getElem?_append_right (by rw [List.length_take]; omega), List.length_take, List.getElem?_drop, List.getElem?_eq_none (by omega), List.getElem?_eq_none (by omega)]
/-- One row of a list of rows that lie apart has been written. -/
theorem RowsAre.step {w w' : World} {base n : Nat} {ps : List (Nat × Nat)} {xs ys : List (List Int)} (hxy : xs.length = ys.length) {m : Nat} (h : RowsAre w base n ps (mix xs ys m)) (hn : (ps.map (·.1)).Nodup) {p : Nat × Nat} {y : List Int}
    (hp : ps[m]? = some p) (hy : ys[m]? = some y) (hk : Kept w w' (fun k => k = p.1)) (hr : RowIs w' base n p y) : RowsAre w' base n ps (mix xs ys (m + 1)) := by
  have hl := h.len
  rw [mix_len _ _ _ hxy] at hl
  refine ⟨by rw [mix_len _ _ _ hxy]; exact hl, fun i q x hq hx => ?_⟩
  rw [mix_get _ _ _ _ hxy] at hx
  by_cases e : i = m
  · subst e
    rw [if_pos (by omega), hy] at hx
    rw [hp] at hq
    cases hq; cases hx
    exact hr
  · refine (h.row i q x hq ?_).kept hk fun e2 => e ?_
    · rw [mix_get _ _ _ _ hxy]
      by_cases hi : i < m
      · rw [if_pos hi]; rw [if_pos (by omega)] at hx; exact hx
      · rw [if_neg hi]; rw [if_neg (by omega)] at hx; exact hx
    · have h1 : (ps.map (·.1))[i]? = some q.1 := by rw [List.getElem?_map, hq]; rfl
      have h2 : (ps.map (·.1))[m]? = some p.1 := by rw [List.getElem?_map, hp]; rfl
      have hi := (List.getElem?_eq_some_iff.1 h1).1
      have hm := (List.getElem?_eq_some_iff.1 h2).1
      exact (List.getElem_inj (h₀ := hi) (h₁ := hm) hn).1 (by rw [(List.getElem?_eq_some_iff.1 h1).2, (List.getElem?_eq_some_iff.1 h2).2]; exact e2)

theorem list_of {α : Type} (P : Nat → α → Prop) : ∀ N, (∀ j, j < N → ∃ p, P j p) → ∃ l : List α, l.length = N ∧ ∀ j p, l[j]? = some p → P j p
  | 0, _ => ⟨[], rfl, fun j p h => by simp at h⟩
  | N + 1, h => by
    obtain ⟨l, hl, hP⟩ := list_of P N fun j hj => h j (by omega)
    obtain ⟨p, hp⟩ := h N (by omega)
    refine ⟨l ++ [p], by simp [hl], fun j q hq => ?_⟩
    rcases Nat.lt_or_ge j l.length with hj | hj
    · rw [List.getElem?_append_left hj] at hq; exact hP j q hq
    · rw [List.getElem?_append_right hj] at hq
      have hjN : j - l.length < 1 := by
        have := (List.getElem?_eq_some_iff.1 hq).1
        simpa using this
      have : j = N := by omega
      subst this
      rw [hl, Nat.sub_self] at hq
      simp at hq
      rw [← hq]; exact hp

/-- What the print says of a made row of rows, in these words. -/
theorem of_S {w : World} {base n : Nat} {ok : Nat → Prop} {v : Value} {m : List (List Int)} (h : Kd.S (Kd.slice 3 (Kd.int .i64)) 23 w base ok v m) (hn : 0 < n) (hm : ∀ x ∈ m, x.length = n) :
    ∃ ps, Spine w base n v ps ∧ RowsAre w base n ps m ∧ (ps.map (·.1)).Nodup := by
  obtain ⟨f, h0, inner, ho, hr⟩ := h
  rw [List.length_zipIdx] at ho
  have key : ∀ j, j < m.length → ∃ p : Nat × Nat, inner[j]? = some (sv n p) ∧ f p.1 = j ∧ ∀ x, m[j]? = some x → RowIs w base n p x := by
    intro j hj
    have hx := List.getElem?_eq_getElem hj
    have hz : m.zipIdx[j]? = some (m[j], j) := Kd.zip_at hx
    obtain ⟨v', e, hR⟩ := hr.2 j (m[j], j) hz
    have hlen : m[j].length = n := hm _ (List.getElem_mem hj)
    obtain ⟨g, cap, hv, _⟩ := Kd.R_form hR (by show 0 < m[j].length; omega)
    have hv' : v' = sv n (g, cap) := by rw [hv]; show Value.slice _ m[j].length _ = _; rw [hlen]; rfl
    refine ⟨(g, cap), ?_, ?_, fun x hx' => ?_⟩
    · have h1 : ((inner.drop (j * 1)).take 1)[0]? = some v' := by
        have : (inner.drop (j * (Kd.tag f (Kd.slice 3 (Kd.int .i64))).sz)).take (Kd.tag f (Kd.slice 3 (Kd.int .i64))).sz = [v'] := e
        show ((inner.drop (j * (Kd.tag f (Kd.slice 3 (Kd.int .i64))).sz)).take (Kd.tag f (Kd.slice 3 (Kd.int .i64))).sz)[0]? = some v'
        rw [this]; rfl
      rw [List.getElem?_take, if_pos (by omega), List.getElem?_drop, Nat.mul_one, Nat.add_zero] at h1
      rw [h1, hv']
    · exact (hR.1 g (by rw [hv]; rfl)).2
    · rw [hx] at hx'
      cases hx'
      rw [hv'] at hR
      exact Kd.R_mono (Kd.R_tight rfl hR) fun k hk => by
        have : some k = some g := hk
        exact Option.some.inj this
  obtain ⟨ps, hl, hP⟩ := list_of _ _ key
  refine ⟨ps, ?_, ⟨hl, fun i p x hp hx => (hP i p hp).2.2 x hx⟩, ?_⟩
  · have hin : inner = encs (sv n) ps := by
      apply List.ext_getElem?
      intro j
      unfold encs
      rw [List.getElem?_map]
      rcases Nat.lt_or_ge j ps.length with hj | hj
      · rw [List.getElem?_eq_getElem hj, (hP j _ (List.getElem?_eq_getElem hj)).1]
        rfl
      · rw [List.getElem?_eq_none hj, List.getElem?_eq_none]
        · rfl
        · have h1 : inner.length = m.length * 1 := ho.1
          omega
    rw [← hl, hin] at ho
    exact Kd.R_of_own (enc := sv n) (h1 := fun _ => rfl) ho fun k hk => hk.symm
  · rw [List.nodup_iff_pairwise_ne] 
    refine List.pairwise_iff_getElem.2 fun i j hi hj hij e => ?_
    rw [List.getElem_map, List.getElem_map] at e
    have hi' : i < ps.length := by simpa using hi
    have hj' : j < ps.length := by simpa using hj
    have h1 := (hP i _ (List.getElem?_eq_getElem hi')).2.1
    have h2 := (hP j _ (List.getElem?_eq_getElem hj')).2.1
    rw [e] at h1
    omega

/-- .. and back. -/
theorem to_S {w : World} {base n : Nat} {v : Value} {ps : List (Nat × Nat)} {m : List (List Int)} (h : Spine w base n v ps) (hr : RowsAre w base n ps m) (hn : (ps.map (·.1)).Nodup) : Kd.S (Kd.slice 3 (Kd.int .i64)) 23 w base (fun _ => True) v m := by
  have ho := Kd.own_of_R h
  refine ⟨fun k => (ps.map (·.1)).idxOf k, fun _ _ => trivial, encs (sv n) ps, ?_, ?_, ?_⟩
  · rw [List.length_zipIdx, ← hr.len]; exact ho
  · rw [List.length_zipIdx]
    show (encs (sv n) ps).length = m.length * 1
    simp [encs, hr.len]
  · rintro j ⟨x, i⟩ hx
    have hj : j < m.length := by
      have := (List.getElem?_eq_some_iff.1 hx).1
      rwa [List.length_zipIdx] at this
    have hx2 : m.zipIdx[j]? = some (m[j], j) := Kd.zip_at (List.getElem?_eq_getElem hj)
    rw [hx2] at hx
    cases hx
    have hjp : j < ps.length := by rw [hr.len]; exact hj
    have hrow := hr.row j _ _ (List.getElem?_eq_getElem hjp) (List.getElem?_eq_getElem hj)
    refine ⟨sv n ps[j], ?_, ?_⟩
    · show (List.drop (j * 1) (encs (sv n) ps)).take 1 = [sv n ps[j]]
      rw [Nat.mul_one]
      unfold encs
      rw [List.drop_eq_getElem_cons (by simpa using hjp)]
      simp
    · refine Kd.R_mono hrow fun k hk => ⟨⟨trivial, fun e => ?_⟩, ?_⟩
      · have hk' : k = ps[j].1 := hk
        rw [hk'] at e
        exact h.apart hrow e.symm
      · have hk' : k = ps[j].1 := hk
        have : (ps.map (·.1))[j]'(by simpa using hjp) = k := by rw [List.getElem_map]; exact hk'.symm
        rw [← this]
        exact List.Nodup.idxOf_getElem hn j (by simpa using hjp)
theorem to_C {w : World} {base n N : Nat} {A : Option Addr} {c : Nat} {ps : List (Nat × Nat)} {m : List (List Int)} (h : Spine w base n (.slice A N c) ps) (hr : RowsAre w base n ps m) (hn : (ps.map (·.1)).Nodup) : Kd.C (Kd.slice 3 (Kd.int .i64)) w A m.length m :=
  (Kd.R_reads' (Kd.S_R (to_S h hr hn))).2.2

theorem index_left (A B : Option Addr) (n m c d : Nat) (w : World) : (Instr.index 98 (.agg #[.slice A n c, .slice B m d]) (.int .i64 0)).run Try.prog w = .ok (.slice A n c) w := by
  simp [Instr.index, run_underlying Try.underlying98, asIntOf, go_sem, Try.sizeOf22]
theorem index_right (A B : Option Addr) (n m c d : Nat) (w : World) : (Instr.index 98 (.agg #[.slice A n c, .slice B m d]) (.int .i64 1)).run Try.prog w = .ok (.slice B m d) w := by
  simp [Instr.index, run_underlying Try.underlying98, asIntOf, go_sem, Try.sizeOf22]

/-! ### slices.Delete of one row -/
theorem delete_one (base n g cap i : Nat) (ps : List (Nat × Nat)) (N : Nat) (w : World) (h : Spine w base n (.slice (some ⟨g, 0, none⟩) N cap) ps) (hi : i < ps.length) :
    Calls Try.prog 108 #[.slice (some ⟨g, 0, none⟩) N cap, .int .i64 (i : Int), .int .i64 ((i : Int) + 1)] w fun e w' => e = .returned (.slice (some ⟨g, 0, none⟩) (ps.eraseIdx i).length cap) ∧
      Spine w' base n (.slice (some ⟨g, 0, none⟩) (ps.eraseIdx i).length cap) (ps.eraseIdx i) ∧ Kept w w' (fun k => k = g) ∧ ∀ w0 : World, Below w0.heap.size w0 w → w0.heap.size ≤ g → Below w0.heap.size w0 w' := by
  have hle : (ps.eraseIdx i).length = ps.length - 1 := by rw [List.length_eraseIdx, if_pos hi]
  rw [hle]
  have ho := Kd.own_of_R h
  have hN : N = ps.length := (Kd.R_reads' h).1
  subst hN
  obtain ⟨zr, hzr⟩ : ∃ zr : Option Addr × Nat × Nat, zr = (none, 0, 0) := ⟨_, rfl⟩
  let enc : Option Addr × Nat × Nat → Value := fun x => .slice x.1 x.2.1 x.2.2
  let zs : List (Option Addr × Nat × Nat) := ps.map fun p => (some ⟨p.1, 0, none⟩, n, p.2)
  have hzs : zs.map enc = encs (sv n) ps := by
    simp only [zs, enc, encs, List.map_map]
    rfl
  have hlz : zs.length = ps.length := by simp [zs]
  have ho2 : w.ownsRow base 23 1 (.slice (some ⟨g, 0, none⟩) ps.length cap) ps.length (zs.map enc) := by rw [hzs]; exact ho
  obtain ⟨g', cap', e, _, _, hcap, hmax, _, hH⟩ := Go.Lib.holds_of_ownsRow (α := Option Addr × Nat × Nat) ho2 (by simp)
  injection e with e1 _ e3
  injection e1 with e1
  injection e1 with e1
  subst e1; subst e3
  have hinfo := Try.prog_info23
  obtain ⟨i0, hi0, hz1⟩ : ∃ i0, Try.prog.info? 23 = some i0 ∧ i0.size = 1 := by
    cases hq : Try.prog.info? 23 with
    | none => rw [hq] at hinfo; cases hinfo
    | some i0 => rw [hq] at hinfo; exact ⟨i0, rfl, by simpa using hinfo⟩
  have hc := AnyE.slices_Delete Try.del enc (fun _ => rfl) (none, 0, 0) Try.zeroValue23 i0 hi0 hz1 g 0 cap i (i + 1) zs.toArray w hH (by simpa [hlz] using hcap) (by simp only [maxLen] at hmax; omega) (by omega) (by simp [hlz]; omega)
  simp only [List.size_toArray, hlz] at hc
  refine Calls.mono hc fun e w' ⟨he, q, hw⟩ => ?_
  subst hw
  have hy : zs.take i ++ zs.drop (i + 1) ++ List.replicate (i + 1 - i) (none, 0, 0) = zs.eraseIdx i ++ [(none, 0, 0)] := by
    rw [List.eraseIdx_eq_take_drop_succ, show i + 1 - i = 1 by omega]
    rfl
  have hyl : (zs.eraseIdx i ++ [(none, 0, 0)]).length = ps.length := by
    rw [List.length_append, List.length_eraseIdx, if_pos (by omega), hlz]
    simp
    omega
  refine ⟨by rw [he, show i + 1 - i = 1 by omega], ?_, ?_, ?_⟩
  · have h2 := Go.Lib.ownsRow_putRow (q := q) (k := ps.length - 1) ho2 hyl (by omega)
    have h3 : ((zs.eraseIdx i ++ [((none : Option Addr), 0, 0)]).take (ps.length - 1)).map enc = encs (sv n) (ps.eraseIdx i) := by
      have hl2 : (zs.eraseIdx i).length = ps.length - 1 := by rw [List.length_eraseIdx, if_pos (by omega), hlz]
      rw [← hl2, List.take_left]
      unfold encs
      have h5 : zs.map enc = ps.map (sv n) := hzs
      rw [List.eraseIdx_eq_take_drop_succ, List.eraseIdx_eq_take_drop_succ, List.map_append, List.map_append, List.map_take, List.map_drop, List.map_take, List.map_drop, h5]
    rw [h3] at h2
    have hl3 : (ps.eraseIdx i).length = ps.length - 1 := by rw [List.length_eraseIdx, if_pos hi]
    rw [← hy] at h2
    have h4 := Kd.R_of_own (enc := sv n) (h1 := fun _ => rfl) (ok := fun k => some k = (Value.slice (some ⟨g, 0, none⟩) (ps.length - 1) cap).ownBlock) (xs := ps.eraseIdx i) (by rw [hl3]; exact h2) (fun k hk => hk.symm)
    exact h4
  · refine ⟨by simp [Go.Sort.putRow, Go.Sort.mapBlock, Go.Sort.ahead], fun k hk hne => ?_⟩
    simp [Go.Sort.putRow, Go.Sort.mapBlock, Go.Sort.ahead, Array.getElem?_modify, show g ≠ k from fun e => hne e.symm]
  · intro w0 hb hg
    exact Go.Lib.below_putRow hb hg
end Go.Proofs.YtojkepidkmkmpaaRed
