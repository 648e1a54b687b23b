/-
  Words for a law's own walk: what is read of a value as long as the blocks that lie in its interval stand; a row of rows that is written.
  Conditions: none of its own.
-/
import Derived.Test.YtojkepidkmkmpaaRedWords
import Derived.Test.YtojkepidkmkmpaaWN
import Derived.Test.YtojkepidkmkmpaaWNEv
namespace Go.Proofs.YtojkepidkmkmpaaRed
open Go.RowKit Go.Proofs.YtojkepidkmkmpaaW.PrintWords
/-- What is read of a value hangs on the blocks from lo to hi alone. -/
def Rd {α : Type} (d : Kd α) (W : World) (lo hi : Nat) (A : Option Addr) (l : List α) : Prop := hi ≤ W.heap.size ∧ Kd.F d W (fun k => lo ≤ k ∧ k < hi) A l.length l
section
variable {α : Type} {d : Kd α} {W W' : World} {lo hi e base : Nat} {A : Option Addr} {l : List α} {v : Value} {ok : Nat → Prop}
theorem Rd.now (h : Rd d W lo hi A l) : d.C W A l.length l := h.2 W fun _ _ _ => rfl
theorem Rd.below (h : Rd d W lo hi A l) (hb : Below W.heap.size W W') : Rd d W' lo hi A l :=
  ⟨Nat.le_trans h.1 hb.size, fun W'' hW => h.2 W'' fun k hk hlt => (hW k hk (Nat.lt_of_lt_of_le hlt hb.size)).trans (hb.block k hlt)⟩
theorem Rd.drawn (h : Rd d W lo hi A l) (hd : Drawn0 W W') : Rd d W' lo hi A l := by
  obtain ⟨n, rfl⟩ := hd
  exact h
theorem Rd.kept (h : Rd d W lo hi A l) {S : Nat → Prop} (hk : Kept W W' S) (hs : ∀ k, lo ≤ k → k < hi → ¬ S k) : Rd d W' lo hi A l :=
  ⟨Nat.le_trans h.1 hk.1, fun W'' hW => h.2 W'' fun k hok hlt => (hW k hok (Nat.lt_of_lt_of_le hlt hk.1)).trans (hk.2 k hlt (hs k hok.1 hok.2))⟩
theorem Rd.ofN (h : Kd.N d e W base (fun k => base ≤ k) v l) : ∃ A c, v = .slice A l.length c ∧ l.length ≤ c ∧ Rd d W base W.heap.size A l := by
  obtain ⟨A, c, rfl⟩ := Kd.N_slice h
  have h2 := Kd.N_reads' h
  refine ⟨A, c, rfl, h2.2.1, Nat.le_refl _, ?_⟩
  exact Kd.N_F (Kd.N_bound h)
theorem Rd.ofR (h : d.R e W base ok v l) : ∃ A c, v = .slice A l.length c ∧ l.length ≤ c ∧ Rd d W base W.heap.size A l :=
  Rd.ofN (Kd.N_mono (Kd.R_N (Kd.R_bound h)) fun _ hk => hk.2.1)
theorem Rd.ofS (h : Kd.S d e W base ok v l) : ∃ A c, v = .slice A l.length c ∧ l.length ≤ c ∧ Rd d W base W.heap.size A l := Rd.ofR (Kd.S_R h)
end
/-- A row of rows that may be written: all its blocks lie from lo to hi. -/
def Wr (W : World) (lo hi : Nat) (v : Value) (X : List (List Int)) : Prop := hi ≤ W.heap.size ∧ Kd.S (Kd.slice 3 (Kd.int .i64)) 23 W lo (fun k => lo ≤ k ∧ k < hi) v X
section
variable {W W' : World} {lo hi base : Nat} {v : Value} {X : List (List Int)} {ok : Nat → Prop}
theorem Wr.ofS (h : Kd.S (Kd.slice 3 (Kd.int .i64)) 23 W base ok v X) : Wr W base W.heap.size v X := ⟨Nat.le_refl _, Kd.S_mono (Kd.S_bound h) fun _ hk => ⟨hk.2.1, hk.2.2.1⟩⟩
theorem Wr.form (h : Wr W lo hi v X) : ∃ A c, v = .slice A X.length c ∧ X.length ≤ c := by
  obtain ⟨A, c, e, hl, _⟩ := Kd.R_reads (Kd.S_R h.2)
  exact ⟨A, c, e, hl⟩
theorem Wr.now {A : Option Addr} {n c : Nat} (h : Wr W lo hi (.slice A n c) X) : (Kd.slice 3 (Kd.int .i64)).C W A X.length X := (Kd.R_reads' (Kd.S_R h.2)).2.2
theorem Wr.below (h : Wr W lo hi v X) (hb : Below W.heap.size W W') : Wr W' lo hi v X := ⟨Nat.le_trans h.1 hb.size, Kd.S_below h.2 hb⟩
theorem Wr.drawn (h : Wr W lo hi v X) (hd : Drawn0 W W') : Wr W' lo hi v X := by
  obtain ⟨n, rfl⟩ := hd
  exact ⟨h.1, Kd.S_step h.2 fun _ _ _ => rfl⟩
theorem Wr.kept (h : Wr W lo hi v X) {S : Nat → Prop} (hk : Kept W W' S) (hs : ∀ k, lo ≤ k → k < hi → ¬ S k) : Wr W' lo hi v X := ⟨Nat.le_trans h.1 hk.1, Kd.S_kept h.2 hk fun k hk => hs k hk.1 hk.2⟩
end
theorem below_of_drawn {w W W' : World} (hd : Drawn0 W W') (hb : Below w.heap.size w W) : Below w.heap.size w W' := by
  obtain ⟨n, rfl⟩ := hd
  exact pw_below_drewN hb n
theorem size_of_drawn {W W' : World} (hd : Drawn0 W W') : W'.heap.size = W.heap.size := by
  obtain ⟨n, rfl⟩ := hd
  rfl

/-! ### rows of any lengths -/
abbrev Tr := Option Addr × Nat × Nat
def tv (t : Tr) : Value := .slice t.1 t.2.1 t.2.2
def TK : Kd Tr := Kd.scalar tv (fun _ => rfl)
structure RowsV (w : World) (base : Nat) (ts : List Tr) (xs : List (List Int)) : Prop where
  len : ts.length = xs.length
  row : ∀ (i : Nat) (t : Tr) (x : List Int), ts[i]? = some t → xs[i]? = some x → Kd.R (Kd.int .i64) 3 w base (fun k => some k = (tv t).ownBlock) (tv t) x
def ApartV (ts : List Tr) : Prop := ∀ (i j : Nat) (t u : Tr) (k : Nat), i ≠ j → ts[i]? = some t → ts[j]? = some u → (tv t).ownBlock = some k → (tv u).ownBlock ≠ some k
theorem of_S2 {w : World} {base : Nat} {ok : Nat → Prop} {v : Value} {m : List (List Int)} (h : Kd.S (Kd.slice 3 (Kd.int .i64)) 23 w base ok v m) :
    ∃ ts, TK.R 23 w base (fun k => some k = v.ownBlock) v ts ∧ RowsV w base ts m ∧ ApartV ts ∧ (∀ k, v.ownBlock = some k → ok k) ∧ ∀ t ∈ ts, ∀ k, (tv t).ownBlock = some k → ok k := by
  obtain ⟨f, h0, inner, ho, hr⟩ := h
  rw [List.length_zipIdx] at ho
  have key : ∀ j, j < m.length → ∃ t : Tr, inner[j]? = some (tv t) ∧ (∀ k, (tv t).ownBlock = some k → ok k ∧ f k = j) ∧ ∀ x, m[j]? = some x → Kd.R (Kd.int .i64) 3 w base (fun k => some k = (tv t).ownBlock) (tv t) x := by
    intro j hj
    have hx := List.getElem?_eq_getElem hj
    have hz : m.zipIdx[j]? = some (m[j], j) := Kd.zip_at hx
    obtain ⟨v', e, hR⟩ := hr.2 j (m[j], j) hz
    obtain ⟨A, c, hv⟩ := Kd.R_slice hR
    have hv' : v' = tv (A, m[j].length, c) := hv
    refine ⟨(A, m[j].length, c), ?_, ?_, fun x hx' => ?_⟩
    · have h1 : ((inner.drop (j * 1)).take 1)[0]? = some v' := by
        have : (inner.drop (j * (Kd.tag f (Kd.slice 3 (Kd.int .i64))).sz)).take (Kd.tag f (Kd.slice 3 (Kd.int .i64))).sz = [v'] := e
        show ((inner.drop (j * (Kd.tag f (Kd.slice 3 (Kd.int .i64))).sz)).take (Kd.tag f (Kd.slice 3 (Kd.int .i64))).sz)[0]? = some v'
        rw [this]; rfl
      rw [List.getElem?_take, if_pos (by omega), List.getElem?_drop, Nat.mul_one, Nat.add_zero] at h1
      rw [h1, hv']
    · intro k hk
      have := hR.1 k (by rw [hv']; exact hk)
      exact ⟨this.1.1, this.2⟩
    · rw [hx] at hx'
      cases hx'
      rw [hv'] at hR
      exact Kd.R_tight rfl hR
  obtain ⟨ts, hl, hP⟩ := list_of _ _ key
  refine ⟨ts, ?_, ⟨hl, fun i t x ht hx => (hP i t ht).2.2 x hx⟩, fun i j t u k hij ht hu hk hk2 => ?_, h0, fun t ht k hk => ?_⟩
  · have hin : inner = encs tv ts := by
      apply List.ext_getElem?
      intro j
      unfold encs
      rw [List.getElem?_map]
      rcases Nat.lt_or_ge j ts.length with hj | hj
      · rw [List.getElem?_eq_getElem hj, (hP j _ (List.getElem?_eq_getElem hj)).1]
        rfl
      · rw [List.getElem?_eq_none hj, List.getElem?_eq_none]
        · rfl
        · have h1 : inner.length = m.length * 1 := ho.1
          omega
    rw [← hl, hin] at ho
    exact Kd.R_of_own (enc := tv) (h1 := fun _ => rfl) ho fun k hk => hk.symm
  · have h1 := ((hP i t ht).2.1 k hk).2
    have h2 := ((hP j u hu).2.1 k hk2).2
    omega
  · obtain ⟨i, hi⟩ := List.getElem?_of_mem ht
    exact ((hP i t hi).2.1 k hk).1
theorem to_S2 {w : World} {base : Nat} {ok : Nat → Prop} {v : Value} {ts : List Tr} {m : List (List Int)} (h : TK.R 23 w base (fun k => some k = v.ownBlock) v ts) (hr : RowsV w base ts m) (hn : ApartV ts) (hv : ∀ k, v.ownBlock = some k → ok k) (ht : ∀ t ∈ ts, ∀ k, (tv t).ownBlock = some k → ok k) : Kd.S (Kd.slice 3 (Kd.int .i64)) 23 w base ok v m := by
  have ho := Kd.own_of_R h
  refine ⟨fun k => ts.findIdx (fun t => decide ((tv t).ownBlock = some k)), hv, encs tv ts, ?_, ?_, ?_⟩
  · rw [List.length_zipIdx, ← hr.len]; exact ho
  · rw [List.length_zipIdx]
    show (encs tv ts).length = m.length * 1
    simp [encs, hr.len]
  · rintro j ⟨x, i⟩ hx
    have hj : j < m.length := by
      have := (List.getElem?_eq_some_iff.1 hx).1
      rwa [List.length_zipIdx] at this
    have hx2 : m.zipIdx[j]? = some (m[j], j) := Kd.zip_at (List.getElem?_eq_getElem hj)
    rw [hx2] at hx
    cases hx
    have hjp : j < ts.length := by rw [hr.len]; exact hj
    have hrow := hr.row j _ _ (List.getElem?_eq_getElem hjp) (List.getElem?_eq_getElem hj)
    refine ⟨tv ts[j], ?_, ?_⟩
    · show (List.drop (j * 1) (encs tv ts)).take 1 = [tv ts[j]]
      rw [Nat.mul_one]
      unfold encs
      rw [List.drop_eq_getElem_cons (by simpa using hjp)]
      simp
    · refine Kd.R_mono hrow fun k hk => ⟨⟨ht _ (List.getElem_mem hjp) k hk.symm, fun e => ?_⟩, ?_⟩
      · obtain ⟨c1, h1⟩ := Kd.R_typed hrow k hk.symm
        obtain ⟨c2, h2⟩ := Kd.R_typed h k e.symm
        rw [h1] at h2
        injection h2 with h2
        injection h2 with _ h2
        exact absurd h2 (by decide)
      · refine (List.findIdx_eq hjp).2 ⟨by simpa using hk.symm, fun i hi => ?_⟩
        have h1 := hn j i ts[j] (ts[i]'(by omega)) k (by omega) (List.getElem?_eq_getElem hjp) (List.getElem?_eq_getElem (by omega)) hk.symm
        simpa using h1
theorem RowsV.step {w w' : World} {base : Nat} {ts : List Tr} {xs ys : List (List Int)} (hxy : xs.length = ys.length) {m : Nat} (h : RowsV w base ts (mix xs ys m)) (hn : ApartV ts) {t : Tr} {y : List Int}
    (hp : ts[m]? = some t) (hy : ys[m]? = some y) (hk : Kept w w' (fun k => some k = (tv t).ownBlock)) (hr : Kd.R (Kd.int .i64) 3 w' base (fun k => some k = (tv t).ownBlock) (tv t) y) : RowsV w' base ts (mix xs ys (m + 1)) := by
  have hl := h.len
  rw [mix_len _ _ _ hxy] at hl
  refine ⟨by rw [mix_len _ _ _ hxy]; exact hl, fun i q x hq hx => ?_⟩
  rw [mix_get _ _ _ _ hxy] at hx
  by_cases e : i = m
  · subst e
    rw [if_pos (by omega), hy] at hx
    rw [hp] at hq
    cases hq; cases hx
    exact hr
  · have hx2 : (mix xs ys m)[i]? = some x := by
      rw [mix_get _ _ _ _ hxy]
      by_cases hi : i < m
      · rw [if_pos hi]; rw [if_pos (by omega)] at hx; exact hx
      · rw [if_neg hi]; rw [if_neg (by omega)] at hx; exact hx
    refine Kd.R_kept (h.row i q x hq hx2) hk fun k hk2 hk3 => ?_
    exact hn i m q t k e hq hp hk2.symm hk3.symm
theorem TK_at {w : World} {base N : Nat} {A : Option Addr} {c : Nat} {ok : Nat → Prop} {ts : List Tr} (h : TK.R 23 w base ok (.slice A N c) ts) (i : Nat) (h1 : i < N) :
    ∃ ad t, A = some ad ∧ ts[i]? = some t ∧ w.cell? (ad.add i) = some (tv t) := by
  obtain ⟨hN, _, hC⟩ := Kd.R_reads' h
  subst hN
  obtain ⟨ad, e, hc⟩ := ReadsOf.at_ (Kd.reads_of_C (enc := tv) (d := ((none, 0, 0) : Tr)) (h1 := fun _ => rfl) hC) (i : Int) (by omega) (by omega)
  rw [Int.toNat_natCast] at hc
  refine ⟨ad, ts[i], e, List.getElem?_eq_getElem h1, ?_⟩
  rw [hc]
  unfold rdOf
  rw [Int.toNat_natCast, List.getD_eq_getElem?_getD, List.getElem?_eq_getElem h1]
  rfl
/-! ### arguments, and rows of numbers that are written -/
theorem Rd.ofC {α : Type} {d : Kd α} {W : World} {A : Option Addr} {l : List α} (hd : Kd.Heap d) (h : d.C W A l.length l) : Rd d W 0 W.heap.size A l :=
  ⟨Nat.le_refl _, Kd.F_mono (Kd.C_F hd h) fun _ hk => ⟨Nat.zero_le _, hk⟩⟩
/-- A row that may be written: its blocks lie in P. -/
def WR {α : Type} (d : Kd α) (e : Nat) (W : World) (lo hi : Nat) (v : Value) (l : List α) : Prop := hi ≤ W.heap.size ∧ d.R e W lo (fun k => lo ≤ k ∧ k < hi) v l
section
variable {α : Type} {d : Kd α} {W W' : World} {lo hi e base : Nat} {v : Value} {l : List α} {ok : Nat → Prop}
theorem WR.ofR (h : d.R e W base ok v l) : WR d e W base W.heap.size v l := ⟨Nat.le_refl _, Kd.R_mono (Kd.R_bound h) fun _ hk => ⟨hk.2.1, hk.2.2.1⟩⟩
theorem WR.form (h : WR d e W lo hi v l) : ∃ A c, v = .slice A l.length c ∧ l.length ≤ c := by
  obtain ⟨A, c, e, hl, _⟩ := Kd.R_reads h.2
  exact ⟨A, c, e, hl⟩
theorem WR.now {A : Option Addr} {n c : Nat} (h : WR d e W lo hi (.slice A n c) l) : d.C W A l.length l := by
  have h1 := Kd.R_reads' h.2
  have h2 := h1.2.2
  rw [← h1.1] at h2 ⊢
  exact h2
theorem WR.below (h : WR d e W lo hi v l) (hb : Below W.heap.size W W') : WR d e W' lo hi v l := ⟨Nat.le_trans h.1 hb.size, Kd.R_below h.2 hb⟩
theorem WR.kept (h : WR d e W lo hi v l) {S : Nat → Prop} (hk : Kept W W' S) (hs : ∀ k, lo ≤ k → k < hi → ¬ S k) : WR d e W' lo hi v l := ⟨Nat.le_trans h.1 hk.1, Kd.R_kept h.2 hk fun k hk => hs k hk.1 hk.2⟩
theorem WR.drewN (h : WR d e W lo hi v l) (n : Nat) : WR d e (W.drewN n) lo hi v l := ⟨h.1, Kd.R_drewN h.2 n⟩
end
theorem Wr.drewN {W : World} {lo hi : Nat} {v : Value} {X : List (List Int)} (h : Wr W lo hi v X) (n : Nat) : Wr (W.drewN n) lo hi v X := ⟨h.1, Kd.S_drewN h.2 n⟩
theorem kept_of_drawn {W W' : World} {S : Nat → Prop} {n : Nat} (h : Kept (W.drewN n) W' S) : Kept W W' S := h
theorem below_self {W W' : World} (h : Below W.heap.size W W') : Below W.heap.size W W' := h
theorem below_of_drewN {W W' : World} {n : Nat} (h : Below (W.drewN n).heap.size (W.drewN n) W') : Below W.heap.size W W' := ⟨h.os, h.tape, h.output, h.size, h.block⟩
end Go.Proofs.YtojkepidkmkmpaaRed
