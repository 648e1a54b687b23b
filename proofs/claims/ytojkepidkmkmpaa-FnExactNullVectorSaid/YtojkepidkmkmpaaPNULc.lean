/-
  Goes on where the text before it ends.
  Conditions: none beside the given statement's own.
-/
import Derived.Lib.SliceRun
import Derived.Deep.QuietTactic
import Derived.BigQuiet
import Derived.Test.YtojkepidkmkmpaaPNULb
set_option linter.unusedVariables false
set_option linter.unusedSimpArgs false
section
namespace Go.Proofs.Ytojkepidkmkmpaa.PFnExactNullVector
open Go.RowKit Go.Proofs.YtojkepidkmkmpaaW.PrintWords Go.Proofs.YtojkepidkmkmpaaW.PrintLast Go.Proofs.YtojkepidkmkmpaaW.PrintMore
attribute [local go_sem] max2_int min2_int max_two min_two max_three min_three max_four min_four
set_option linter.unusedVariables false
set_option linter.unusedSimpArgs false
mutual
def impl_tidy.l0 : Nat → List Int → Int → List Int → Int → Int → Option (List Int)
 | 0, _, _, _, _, _ => none
 | k + 1, x0, x2, x6, x7, x8 => if x8 < x7 then (if 0 ≤ x8 then (if x8 < (x6.length : Int) then ((impl_gcd.f k x2 (rd x6 x8)).bind fun t146 => (impl_tidy.l0 k x0 t146 x6 x7 (wrap64 (x8 + 1)))) else (none)) else (none)) else (if x2 = 0 then (some x0) else ((impl_lead.f k x0).bind fun t147 => (if 0 ≤ t147 then (if t147 < (x0.length : Int) then (if (rd x0 t147) < 0 then (impl_tidy.j1 k x0 (wrap64 (-x2))) else (impl_tidy.j1 k x0 x2)) else (none)) else (none))))
def impl_tidy.j1 : Nat → List Int → Int → Option (List Int)
 | 0, _, _ => none
 | k + 1, x0, x2 => impl_tidy.l1 k x0 x2 (x0.length : Int) 0
def impl_tidy.l1 : Nat → List Int → Int → Int → Int → Option (List Int)
 | 0, _, _, _, _ => none
 | k + 1, x0, x2, x27, x28 => if x28 < x27 then (if 0 ≤ x28 then (if x28 < (x0.length : Int) then (if x2 = 0 then (none) else (impl_tidy.l1 k (x0.set (x28 : Int).toNat (wrap64 (Int.tdiv (rd x0 x28) x2))) x2 x27 (wrap64 (x28 + 1)))) else (none)) else (none)) else (some x0)
end
def impl_tidy.f (k : Nat) (l0 : List Int) : Option (List Int) := impl_tidy.l0 k l0 0 l0 (l0.length : Int) 0
theorem impl_tidy.mono_l : ∀ k, (∀ y0 y1 y2 y3 y4, LeO (impl_tidy.l0 k y0 y1 y2 y3 y4) (impl_tidy.l0 (k + 1) y0 y1 y2 y3 y4)) ∧ (∀ y0 y1, LeO (impl_tidy.j1 k y0 y1) (impl_tidy.j1 (k + 1) y0 y1)) ∧ (∀ y0 y1 y2 y3, LeO (impl_tidy.l1 k y0 y1 y2 y3) (impl_tidy.l1 (k + 1) y0 y1 y2 y3))
|0 => ⟨fun _ _ _ _ _ r h => by simp [impl_tidy.l0] at h, fun _ _ r h => by simp [impl_tidy.j1] at h, fun _ _ _ _ r h => by simp [impl_tidy.l1] at h⟩
|k + 1 => by
  obtain ⟨ih0, ih1, ih2⟩ := impl_tidy.mono_l k
  refine ⟨?_, ?_, ?_⟩
  ·intro y0 y1 y2 y3 y4
   unfold impl_tidy.l0
   repeat' first
  |(with_reducible exact ih0 _ _ _ _ _)
  |(with_reducible exact ih1 _ _)
  |(with_reducible exact ih2 _ _ _ _)
  |(with_reducible exact impl_gcd.mono _ _ _)
  |(with_reducible exact impl_lead.mono _ _)
  |(with_reducible exact LeO.refl _)
  |(with_reducible exact LeO.none _)
  |(with_reducible refine LeO.ite ?_ ?_)
  |(with_reducible refine LeO.bind ?_ (fun _ => ?_))
  |exact ih0 _ _ _ _ _
  |exact ih1 _ _
  |exact ih2 _ _ _ _
  |exact impl_gcd.mono _ _ _
  |exact impl_lead.mono _ _
  |exact LeO.none _
  |refine LeO.ite ?_ ?_
  |refine LeO.bind ?_ (fun _ => ?_)
  ·intro y0 y1
   unfold impl_tidy.j1
   repeat' first
  |(with_reducible exact ih0 _ _ _ _ _)
  |(with_reducible exact ih1 _ _)
  |(with_reducible exact ih2 _ _ _ _)
  |(with_reducible exact impl_gcd.mono _ _ _)
  |(with_reducible exact impl_lead.mono _ _)
  |(with_reducible exact LeO.refl _)
  |(with_reducible exact LeO.none _)
  |(with_reducible refine LeO.ite ?_ ?_)
  |(with_reducible refine LeO.bind ?_ (fun _ => ?_))
  |exact ih0 _ _ _ _ _
  |exact ih1 _ _
  |exact ih2 _ _ _ _
  |exact impl_gcd.mono _ _ _
  |exact impl_lead.mono _ _
  |exact LeO.none _
  |refine LeO.ite ?_ ?_
  |refine LeO.bind ?_ (fun _ => ?_)
  ·intro y0 y1 y2 y3
   unfold impl_tidy.l1
   repeat' first
  |(with_reducible exact ih0 _ _ _ _ _)
  |(with_reducible exact ih1 _ _)
  |(with_reducible exact ih2 _ _ _ _)
  |(with_reducible exact impl_gcd.mono _ _ _)
  |(with_reducible exact impl_lead.mono _ _)
  |(with_reducible exact LeO.refl _)
  |(with_reducible exact LeO.none _)
  |(with_reducible refine LeO.ite ?_ ?_)
  |(with_reducible refine LeO.bind ?_ (fun _ => ?_))
  |exact ih0 _ _ _ _ _
  |exact ih1 _ _
  |exact ih2 _ _ _ _
  |exact impl_gcd.mono _ _ _
  |exact impl_lead.mono _ _
  |exact LeO.none _
  |refine LeO.ite ?_ ?_
  |refine LeO.bind ?_ (fun _ => ?_)
theorem impl_tidy.mono : ∀ a0 k, LeO (impl_tidy.f k a0) (impl_tidy.f (k + 1) a0) := by
 intro a0 k
 obtain ⟨ih0, ih1, ih2⟩ := impl_tidy.mono_l k
 unfold impl_tidy.f
 repeat' first
  |(with_reducible exact ih0 _ _ _ _ _)
  |(with_reducible exact ih1 _ _)
  |(with_reducible exact ih2 _ _ _ _)
  |(with_reducible exact impl_gcd.mono _ _ _)
  |(with_reducible exact impl_lead.mono _ _)
  |(with_reducible exact LeO.refl _)
  |(with_reducible exact LeO.none _)
  |(with_reducible refine LeO.ite ?_ ?_)
  |(with_reducible refine LeO.bind ?_ (fun _ => ?_))
  |exact ih0 _ _ _ _ _
  |exact ih1 _ _
  |exact ih2 _ _ _ _
  |exact impl_gcd.mono _ _ _
  |exact impl_lead.mono _ _
  |exact LeO.none _
  |refine LeO.ite ?_ ?_
  |refine LeO.bind ?_ (fun _ => ?_)
set_option maxHeartbeats 8000000 in
set_option maxRecDepth 100000 in
theorem impl_tidy.calls (k : Nat) (P0_ : Nat → Prop) (u9000_ : Value) (l0 : List Int) (r : List Int) (w0 w : World) (hB : Below w0.heap.size w0 w) (ho0 : Kd.R (Kd.int .i64) 3 w w0.heap.size P0_ u9000_ l0) (h : impl_tidy.f k l0 = some r) :
  Calls Try.prog 105 #[u9000_] w fun e w' => e = .returned (.tuple #[]) ∧ Kd.R (Kd.int .i64) 3 w' w0.heap.size (fun k_ => (P0_ k_ ∨ w.heap.size ≤ k_)) u9000_ r ∧ Below w0.heap.size w0 w' ∧ Kept w w' (fun k_ => P0_ k_) := by
 have HO0 := Aside0.mk (show Kd.R (Kd.int .i64) 3 w w0.heap.size (fun k_ => (P0_ k_ ∨ w.heap.size ≤ k_)) u9000_ l0 from Kd.R_mono ho0 (fun k_ hk => (.inl hk)))
 have HK := Aside0.mk (Kept.refl w (fun k_ => P0_ k_))
 have HW0 := Aside0.mk hB.size
 have HB := Aside0.mk hB
 clear hB
 have H : (impl_tidy.l0 k l0 0 l0 (l0.length : Int) 0) = some r := h
 clear h
 have H' := Aside0.mk H
 clear H
 obtain ⟨Ao2, co2, eo2⟩ := Kd.R_slice HO0.out
 subst eo2
 go_enter Try.func105, Try.ntmps105
 go_wp2
 go_loopg [2, 8] k (fun kq v2 v8 w' => ∃ (x2_1 : Int) (x8_1 : Int), v2 = .int .i64 x2_1 ∧ v8 = .int .i64 x8_1 ∧ Aside0 (impl_tidy.l0 kq l0 x2_1 l0 (l0.length : Int) x8_1 = some r) ∧ Aside0 (kq ≤ k) ∧ Aside0 (Kd.R (Kd.int .i64) 3 w' w0.heap.size (fun k_ => (P0_ k_ ∨ w.heap.size ≤ k_)) (.slice Ao2 l0.length co2) l0) ∧ Aside0 (Kd.R (Kd.int .i64) 3 w' w0.heap.size (fun k_ => (P0_ k_ ∨ w.heap.size ≤ k_)) (.slice Ao2 l0.length co2) l0) ∧ Aside0 (Kept w w' (fun k_ => P0_ k_)) ∧ Aside0 (Below w0.heap.size w0 w'))
 case atStart => exact ⟨(0), (0), (by first|rfl|(simp;done)|(simp [*];done)), (by first|rfl|(simp;done)|(simp [*];done)), H', ⟨Nat.le_refl _⟩, ⟨by (with_reducible repeat (first|apply Kd.R_alloc|apply Kd.R_drewN|apply Kd.R_drew));exact HO0.out⟩, ⟨by (with_reducible repeat (first|apply Kd.R_alloc|apply Kd.R_drewN|apply Kd.R_drew));exact HO0.out⟩, ⟨by repeat (first|(with_reducible first|exact HK.out|apply Kept.alloc|apply Kept.drewN|apply Kept.drew)|exact HK.out)⟩, ⟨by repeat (first|(with_reducible first|exact HB.out|apply below_alloc|apply pw_below_drewN|apply below_drew1)|exact HB.out)⟩⟩
 case round =>
  clear H'
  try clear c1
  try clear p2
  obtain ⟨x2_1, x8_1, rfl, rfl, HA, HK1, HO_0, HO_6, HK, HB⟩ := hrel
  cases gk with
 |zero => exact absurd HA.out (by simp [impl_tidy.l0])
 |succ k1 =>
   have H := HA.out
   clear HA
   simp only [impl_tidy.l0] at H
   by_cases c3 : x8_1 < (l0.length : Int)
   ·rw [if_pos c3] at H
    have c3b0 : decide (x8_1 < (l0.length : Int)) = true := decide_eq_true c3
    clear c3
    by_cases c4 : 0 ≤ x8_1
    ·rw [if_pos c4] at H
     have c4b0 : decide (0 ≤ x8_1) = true := decide_eq_true c4
     clear c4
     by_cases c5 : x8_1 < (l0.length : Int)
     ·rw [if_pos c5] at H
      have c5b0 : decide (x8_1 < (l0.length : Int)) = true := decide_eq_true c5
      clear c5
      replace H := Option.bind_eq_some_iff.mp H
      obtain ⟨t146, A60, H⟩ := H
      replace H : (impl_tidy.l0 k1 l0 t146 l0 (l0.length : Int) (wrap64 (x8_1 + 1))) = some r := H
      have A6 := Aside0.mk A60
      clear A60
      have H' := Aside0.mk H
      clear H
      have p145 : 0 ≤ (x8_1 : Int) := of_decide_eq_true (by first|(with_reducible assumption)|assumption)
      have q145 : x8_1 < (l0.length : Int) := of_decide_eq_true (by first|(with_reducible assumption)|assumption)
      obtain ⟨ad145, e145, hx145_0⟩ := Kd.at_int (Kd.R_reads' HO_6.out).2.2 x8_1 p145 q145
      cases e145
      replace p145 := eq_true p145
      replace q145 := eq_true q145
      go_wp2_with (first|((with_reducible refine gate_callee (f := 60) rfl ?_);refine goesL_ (some 14) rfl rfl Try.func60 (by kernel_rfl) rfl #[.int .i64 x2_1, .int .i64 (rd l0 x8_1)] rfl (by (try simp only [List.map_toArray, List.map_cons, List.map_nil]);first|done|rfl|(simp only [List.length_drop, List.length_take];rfl)) ?_;(with_reducible refine (impl_gcd.calls k1 x2_1 (rd l0 x8_1) t146 _ A6.out).mono ?_);rintro e w' ⟨rfl, ⟨nd, rfl⟩⟩;refine ⟨_, rfl, ?_⟩))
      go_roundg k1
      case measure => have := HK1.out;omega
      case rel => exact ⟨(t146), (wrap64 (x8_1 + 1)), (by first|rfl|(simp;done)|(simp [*];done)), (by first|rfl|(simp;done)|(simp [*];done)), H', ⟨by have := HK1.out;omega⟩, ⟨by (with_reducible repeat (first|apply Kd.R_alloc|apply Kd.R_drewN|apply Kd.R_drew));exact HO_0.out⟩, ⟨by (with_reducible repeat (first|apply Kd.R_alloc|apply Kd.R_drewN|apply Kd.R_drew));exact HO_6.out⟩, ⟨by repeat (first|(with_reducible first|exact HK.out|apply Kept.alloc|apply Kept.drewN|apply Kept.drew)|exact HK.out)⟩, ⟨by repeat (first|(with_reducible first|exact HB.out|apply below_alloc|apply pw_below_drewN|apply below_drew1)|exact HB.out)⟩⟩
     ·rw [if_neg c5] at H
      exact absurd H (by simp)
    ·rw [if_neg c4] at H
     exact absurd H (by simp)
   ·rw [if_neg c3] at H
    have c3b0 : decide (x8_1 < (l0.length : Int)) = false := decide_eq_false c3
    clear c3
    by_cases c7 : x2_1 = 0
    ·rw [if_pos c7] at H
     have c7b0 : (x2_1 == 0) = true := beq_iff_eq.mpr c7
     have c7b1 : (x2_1 != 0) = false := bne_eq_false_iff_eq.mpr c7
     clear c7
     obtain rfl := Option.some.inj H
     go_wp2
     first|go_end0|((try simp only [Exit.inBlock, Exit.then]);refine bodyPost_ret (results_none rfl _ _ _) rfl ?_)
     exact ⟨by first|rfl|(simp [errW_none, errW_some] <;> rfl)|(simp [*, errW_none, errW_some] <;> rfl), by (with_reducible repeat (first|apply Kd.R_alloc|apply Kd.R_drewN|apply Kd.R_drew));exact HO_0.out, by repeat (first|(with_reducible first|exact HB.out|apply below_alloc|apply pw_below_drewN|apply below_drew1)|exact HB.out), by repeat (first|(with_reducible first|exact HK.out|apply Kept.alloc|apply Kept.drewN|apply Kept.drew)|exact HK.out)⟩
    ·rw [if_neg c7] at H
     have c7b0 : (x2_1 == 0) = false := beq_eq_false_iff_ne.mpr c7
     have c7b1 : (x2_1 != 0) = true := bne_iff_ne.mpr c7
     replace H := Option.bind_eq_some_iff.mp H
     obtain ⟨t147, A80, H⟩ := H
     replace H : (if 0 ≤ t147 then (if t147 < (l0.length : Int) then (if (rd l0 t147) < 0 then (impl_tidy.j1 k1 l0 (wrap64 (-x2_1))) else (impl_tidy.j1 k1 l0 x2_1)) else (none)) else (none)) = some r := H
     have A8 := Aside0.mk A80
     clear A80
     by_cases c9 : 0 ≤ t147
     ·rw [if_pos c9] at H
      have c9b0 : decide (0 ≤ t147) = true := decide_eq_true c9
      clear c9
      by_cases c10 : t147 < (l0.length : Int)
      ·rw [if_pos c10] at H
       have c10b0 : decide (t147 < (l0.length : Int)) = true := decide_eq_true c10
       clear c10
       have HC11 := Aside0.mk H
       clear H
       go_upto_if 23 with (first|((with_reducible refine gate_callee (f := 59) rfl ?_);refine goesL_ (some 20) rfl rfl Try.func59 (by kernel_rfl) rfl #[.slice Ao2 l0.length co2] rfl (by (try simp only [List.map_toArray, List.map_cons, List.map_nil]);first|done|rfl|(simp only [List.length_drop, List.length_take];rfl)) ?_;(with_reducible refine (impl_lead.calls k1 _ _ l0 t147 _ ?side1 ?side2 A8.out).mono ?_);(case side1 => repeat (first|exact (Kd.R_reads' HO_0.out).2.2|(with_reducible refine Kd.C_alloc ?_ _)|(with_reducible refine Kd.C_drewN ?_ _)|(with_reducible refine Kd.C_drew ?_)));(case side2 => exact (Kd.R_reads' HO_0.out).2.1);rintro e w' ⟨rfl, ⟨nd, rfl⟩⟩;refine ⟨_, rfl, ?_⟩;have p148 : 0 ≤ (t147 : Int) := of_decide_eq_true (by first|(with_reducible assumption)|assumption);have q148 : t147 < (l0.length : Int) := of_decide_eq_true (by first|(with_reducible assumption)|assumption);obtain ⟨ad148, e148, hx148_0⟩ := Kd.at_int (Kd.R_reads' HO_0.out).2.2 t147 p148 q148;cases e148;replace p148 := eq_true p148;replace q148 := eq_true q148))
       (try simp only [Act.put, List.setIfInBounds_toArray, List.set_cons_zero, List.set_cons_succ])
       go_cut [2] (fun v2 wc => ∃ (kq : Nat) (x2_10 : Int), v2 = .int .i64 x2_10 ∧ Aside0 (impl_tidy.j1 kq l0 x2_10 = some r) ∧ Aside0 (kq ≤ k1) ∧ Aside0 (Kd.R (Kd.int .i64) 3 wc w0.heap.size (fun k_ => (P0_ k_ ∨ w.heap.size ≤ k_)) (.slice (some ad148) l0.length co2) l0) ∧ Aside0 (Kept w wc (fun k_ => P0_ k_)) ∧ Aside0 (Below w0.heap.size w0 wc))
       case first =>
        have H := HC11.out
        clear HC11
        by_cases c12 : (rd l0 t147) < 0
        ·rw [if_pos c12] at H
         have c12b0 : decide ((rd l0 t147) < 0) = true := decide_eq_true c12
         clear c12
         (first|rw [c12b0]|(simp only [i64_w, i32_w];rw [c12b0])|skip)
         have H' := Aside0.mk H
         clear H
         go_wp2
         go_meet
         case rel => exact ⟨_, (wrap64 (-x2_1)), (by first|rfl|(simp;done)|(simp [*];done)), H', ⟨by have := HK1.out;first|omega|exact Nat.le_refl _⟩, ⟨by (with_reducible repeat (first|apply Kd.R_alloc|apply Kd.R_drewN|apply Kd.R_drew));exact HO_0.out⟩, ⟨by repeat (first|(with_reducible first|exact HK.out|apply Kept.alloc|apply Kept.drewN|apply Kept.drew)|exact HK.out)⟩, ⟨by repeat (first|(with_reducible first|exact HB.out|apply below_alloc|apply pw_below_drewN|apply below_drew1)|exact HB.out)⟩⟩
        ·rw [if_neg c12] at H
         have c12b0 : decide ((rd l0 t147) < 0) = false := decide_eq_false c12
         clear c12
         (first|rw [c12b0]|(simp only [i64_w, i32_w];rw [c12b0])|skip)
         have H' := Aside0.mk H
         clear H
         go_wp2
         go_meet
         case rel => exact ⟨_, (x2_1), (by first|rfl|(simp;done)|(simp [*];done)), H', ⟨by have := HK1.out;first|omega|exact Nat.le_refl _⟩, ⟨by (with_reducible repeat (first|apply Kd.R_alloc|apply Kd.R_drewN|apply Kd.R_drew));exact HO_0.out⟩, ⟨by repeat (first|(with_reducible first|exact HK.out|apply Kept.alloc|apply Kept.drewN|apply Kept.drew)|exact HK.out)⟩, ⟨by repeat (first|(with_reducible first|exact HB.out|apply below_alloc|apply pw_below_drewN|apply below_drew1)|exact HB.out)⟩⟩
       case rest =>
        clear HC11
        try clear c1
        try clear p1
        try clear q1
        try clear hx1
        try clear p2
        try clear c3
        try clear c3b0
        try clear c4
        try clear c4b0
        try clear c5
        try clear c5b0
        try clear c6
        try clear p6
        try clear c7
        try clear c7b0
        try clear c7b1
        try clear c9
        try clear c9b0
        try clear c10
        try clear c10b0
        try clear c12
        try clear c12b0
        try clear hx145_0
        try clear hx148_0
        try clear p145
        try clear p148
        try clear p2
        try clear q145
        try clear q148
        obtain ⟨kq, x2_10, rfl, HA, HJ10, HO_0, HK, HB⟩ := hcut
        cases kq with
       |zero => exact absurd HA.out (by simp [impl_tidy.j1])
       |succ kj10 =>
         have H := HA.out
         clear HA
         simp only [impl_tidy.j1] at H
         have H' := Aside0.mk H
         clear H
         go_wp2
         go_loopg [28] kj10 (fun kq v28 w' => ∃ (x0_3 : List Int) (x28_3 : Int), v28 = .int .i64 x28_3 ∧ Aside0 (impl_tidy.l1 kq x0_3 x2_10 (l0.length : Int) x28_3 = some r) ∧ Aside0 (kq ≤ kj10) ∧ Aside0 (Kd.R (Kd.int .i64) 3 w' w0.heap.size (fun k_ => (P0_ k_ ∨ w.heap.size ≤ k_)) (.slice (some ad148) l0.length co2) x0_3) ∧ Aside0 (Kept w w' (fun k_ => P0_ k_)) ∧ Aside0 (Below w0.heap.size w0 w'))
         case atStart => exact ⟨(l0), (0), (by first|rfl|(simp;done)|(simp [*];done)), H', ⟨Nat.le_refl _⟩, ⟨by (with_reducible repeat (first|apply Kd.R_alloc|apply Kd.R_drewN|apply Kd.R_drew));exact HO_0.out⟩, ⟨by repeat (first|(with_reducible first|exact HK.out|apply Kept.alloc|apply Kept.drewN|apply Kept.drew)|exact HK.out)⟩, ⟨by repeat (first|(with_reducible first|exact HB.out|apply below_alloc|apply pw_below_drewN|apply below_drew1)|exact HB.out)⟩⟩
         case round =>
          clear H'
          try clear c1
          try clear p1
          try clear q1
          try clear hx1
          try clear p2
          try clear c3
          try clear c3b0
          try clear c4
          try clear c4b0
          try clear c5
          try clear c5b0
          try clear c6
          try clear p6
          try clear c7
          try clear c7b0
          try clear c7b1
          try clear c9
          try clear c9b0
          try clear c10
          try clear c10b0
          try clear c12
          try clear c12b0
          try clear hx145_0
          try clear hx148_0
          try clear p1
          try clear p145
          try clear p148
          try clear p2
          try clear p6
          try clear q1
          try clear q145
          try clear q148
          obtain ⟨x0_3, x28_3, rfl, HA, HK3, HO_0, HK, HB⟩ := hrel
          have hl0_3 := (Kd.R_reads' HO_0.out).1
          rw [hl0_3] at HO_0
          (try simp only [hl0_3])
          cases gk with
         |zero => exact absurd HA.out (by simp [impl_tidy.l1])
         |succ k3 =>
           have H := HA.out
           clear HA
           simp only [impl_tidy.l1] at H
           by_cases c13 : x28_3 < (l0.length : Int)
           ·rw [if_pos c13] at H
            have c13b0 : decide (x28_3 < (l0.length : Int)) = true := decide_eq_true c13
            clear c13
            by_cases c14 : 0 ≤ x28_3
            ·rw [if_pos c14] at H
             have c14b0 : decide (0 ≤ x28_3) = true := decide_eq_true c14
             clear c14
             by_cases c15 : x28_3 < (x0_3.length : Int)
             ·rw [if_pos c15] at H
              have c15b0 : decide (x28_3 < (x0_3.length : Int)) = true := decide_eq_true c15
              clear c15
              by_cases c16 : x2_10 = 0
              ·rw [if_pos c16] at H
               exact absurd H (by simp)
              ·rw [if_neg c16] at H
               have c16b0 : (x2_10 == 0) = false := beq_eq_false_iff_ne.mpr c16
               have c16b1 : (x2_10 != 0) = true := bne_iff_ne.mpr c16
               obtain ⟨y150, hy150⟩ : ∃ y_ : List Int, y_ = (x0_3.set (x28_3 : Int).toNat (wrap64 (Int.tdiv (rd x0_3 x28_3) x2_10))) := ⟨_, rfl⟩
               replace H : (impl_tidy.l1 k3 y150 x2_10 (l0.length : Int) (wrap64 (x28_3 + 1))) = some r := by first|(rw [hy150];with_reducible exact H)|(have H2_ := (Option.bind_some _ _).symm.trans H;rw [hy150];with_reducible exact H2_)|(have H2_ := (Option.bind_some _ _).symm.trans H;with_reducible exact H2_)|with_reducible exact H|(rw [hy150];exact H)|exact H
               have Ny150 := Aside0.mk hy150
               clear hy150
               have H' := Aside0.mk H
               clear H
               have p149 : 0 ≤ (x28_3 : Int) := of_decide_eq_true (by first|(with_reducible assumption)|assumption)
               have q149 : x28_3 < (x0_3.length : Int) := of_decide_eq_true (by first|(with_reducible assumption)|assumption)
               obtain ⟨ad149, e149, hx149_0⟩ := Kd.at_int (Kd.R_reads' HO_0.out).2.2 x28_3 p149 q149
               obtain rfl : ad148 = ad149 := (by injection e149)
               replace p149 := eq_true p149
               replace q149 := eq_true q149
               have p17 : 0 ≤ (x28_3 : Int) := of_decide_eq_true (by first|(with_reducible assumption)|assumption)
               have q17 : (x28_3 : Int) < ((x0_3.length : Int) : Int) := of_decide_eq_true (by first|(with_reducible assumption)|assumption)
               obtain ⟨go17, co17, eo17, gb17, gl17, cl17, HG17⟩ := Kd.R_form HO_0.out (by omega)
               (first|cases eo17|(injection eo17 with ea_ en_ ec_;(first|subst ea_|(injection ea_ with ea_;subst ea_));subst ec_;clear en_))
               have GB17 := Aside0.mk gb17
               have GG17 := Aside0.mk HG17
               clear gb17 gl17 HG17
               have HMgo17 := Aside0.mk (show (P0_ go17 ∨ w.heap.size ≤ go17) from (HO_0.out.1 _ rfl))
               (first|simp only [add_plain] at hx148_0|skip)
               (first|simp only [add_plain] at hx149_0|skip)
               obtain ⟨hx17_0, hf17_0⟩ := Kd.R_celln 0 HO_0.out (x28_3 : Int) p17 q17
               replace p17 := eq_true p17
               replace q17 := eq_true q17
               have HP18 := Kd.R_putg HO_0.out (x28_3 : Int) (wrap64 (Int.tdiv (rd x0_3 x28_3) x2_10))
               go_wp2_with (first|((with_reducible refine gate_store (t := 3) (p := 37) rfl ?_);refine store_event (t := 3) (p := 37) (v := ?vo_w19) (w1 := (wr.setCell ⟨go17, (x28_3 : Int).toNat, none⟩ (.int .i64 (wrap64 (Int.tdiv (rd x0_3 x28_3) x2_10))))) ?hg ?ho ?hn ?hr ?_;(case ho => rfl);(case hg => rfl);(case hn => rfl);(case hr => first|(go_simp;done)|(go_simp;rfl));intro w19 hw;have hg : wr.grownBy w19 (some go17) := (by rw [hw];exact HP18.2);have hp_ : Kd.R (Kd.int .i64) 3 w19 w0.heap.size (fun k_ => (P0_ k_ ∨ w.heap.size ≤ k_)) (.slice (some ⟨go17, 0, none⟩) x0_3.length co2) y150 := (by rw [hw, Ny150.out];exact HP18.1);clear HP18;have n0_ := Aside0.mk (hp_);have n1_ := Aside0.mk ((by rw [hw];exact below_set (HB.out) GB17.out : Below w0.heap.size w0 w19));have n2_ := Aside0.mk (Kept.of_grown (S := (fun k_ => P0_ k_)) hg (by repeat (first|(with_reducible first|exact HK.out|apply Kept.alloc|apply Kept.drewN|apply Kept.drew)|exact HK.out)) (fun k_ e_ => (HO_0.out.1 k_ e_)));clear HO_0;clear HB;clear HK;have HO_0 := n0_;have HB := n1_;have HK := n2_;clear n0_ n1_ n2_;clear hg hw hp_))
               (try simp only [← hl0_3])
               go_roundg k3
               case measure => have := HK1.out;have := HJ10.out;have := HK3.out;omega
               case rel => exact ⟨(y150), (wrap64 (x28_3 + 1)), (by first|rfl|(simp;done)|(simp [*];done)), H', ⟨by have := HK1.out;have := HJ10.out;have := HK3.out;omega⟩, ⟨by (try simp only [hl0_3]);(with_reducible repeat (first|apply Kd.R_alloc|apply Kd.R_drewN|apply Kd.R_drew));exact HO_0.out⟩, ⟨by repeat (first|(with_reducible first|exact HK.out|apply Kept.alloc|apply Kept.drewN|apply Kept.drew)|exact HK.out)⟩, ⟨by repeat (first|(with_reducible first|exact HB.out|apply below_alloc|apply pw_below_drewN|apply below_drew1)|exact HB.out)⟩⟩
             ·rw [if_neg c15] at H
              exact absurd H (by simp)
            ·rw [if_neg c14] at H
             exact absurd H (by simp)
           ·rw [if_neg c13] at H
            have c13b0 : decide (x28_3 < (l0.length : Int)) = false := decide_eq_false c13
            (try (have c13b1 : decide (x28_3 < (x0_3.length : Int)) = false := by have h5_ := hl0_3;rw [show (x0_3.length : Int) = (l0.length : Int) by omega];exact c13b0))
            clear c13
            obtain rfl := Option.some.inj H
            go_wp2
            first|go_end0|((try simp only [Exit.inBlock, Exit.then]);refine bodyPost_ret (results_none rfl _ _ _) rfl ?_)
            exact ⟨by first|rfl|(simp [errW_none, errW_some] <;> rfl)|(simp [*, errW_none, errW_some] <;> rfl), (by first|exact (by (with_reducible repeat (first|apply Kd.R_alloc|apply Kd.R_drewN|apply Kd.R_drew));exact HO_0.out)|(simp only [hl0_3];exact (by (with_reducible repeat (first|apply Kd.R_alloc|apply Kd.R_drewN|apply Kd.R_drew));exact HO_0.out))), by repeat (first|(with_reducible first|exact HB.out|apply below_alloc|apply pw_below_drewN|apply below_drew1)|exact HB.out), by repeat (first|(with_reducible first|exact HK.out|apply Kept.alloc|apply Kept.drewN|apply Kept.drew)|exact HK.out)⟩
      ·rw [if_neg c10] at H
       exact absurd H (by simp)
     ·rw [if_neg c9] at H
      exact absurd H (by simp)
theorem slices_IndexFunc_int_int_106.goesV {P : Program} {ops : Array Oper} {Q : Exit → Act → World → Prop} {rest : List Oper} {oi : Oper} {a : Act} {w : World} (N : Option Tmp) (hd : oi.dst = N) (hg : oi.guard = none) {f : FuncId} {fn : Func} {x : Operand} {asx : Array Operand} {ts : Array TypeId} {lb : Array Value} (hf : P.funcs[f]? = some fn) (hname : (fn.name == "runtime.NumGoroutine") = false) (hb : fn.body.isSome = true) (args : Array Value)
  (hop : oi.op = .call { callee := .value x, args := asx, argTypes := ts }) (hx : a.eval x = .func (.func f) #[] lb) (hargs : asx.map a.eval ++ lb = args)
  (h : Calls P f args w fun e w' => ∃ v, e = .returned v ∧ wpList P ops Q rest (a.put N v) w') : wpList P ops Q (oi :: rest) a w := by
 refine wpList_plain hg fun K hK => ?_
 have he := enters_ hf hname hb args w
 have hx' : a.eval x = .func (.func f) #[] lb := hx
 have hargs' : asx.map a.eval ++ lb = args := hargs
 have hrun : (execOp a.eval oi).run P w = .ok (.enter f args) w := by
  unfold execOp
  simp [hop, resolve, Deferred.ofValue, invoke, hx', hargs', he]
 unfold Oper.wp
 rw [hrun, Oper.upon_enter]
 refine h.mono fun e w'' hh => ?_
 obtain ⟨v, rfl, hk⟩ := hh
 subst hd
 exact hK _ _ hk
theorem slices_IndexFunc_int_int_106.pred (k : Nat) (A : Option Addr) (c : Nat) (l : List Int) (t x : Int) (B : Nat) (w : World) (hr : Kd.C (Kd.int .i64) w A l.length l) (hc : l.length ≤ c) (hB : w.cell? ⟨B, 0, none⟩ = some (.int .i64 x)) (h : impl_lead.f k l = some t) :
  Calls Try.prog 107 #[.slice A l.length c, .pointer (some ⟨B, 0, none⟩)] w fun e w' => e = .returned (.bool (t == x)) ∧ Drawn0 w w' := by
 have HR := Aside0.mk hr
 have HC := Aside0.mk hc
 have HH := Aside0.mk h
 clear hr hc h
 go_enter Try.func107, Try.ntmps107
 go_wp2
 go_quiet ((go_at_call 59;(with_reducible refine (impl_lead.calls k _ _ l t _ ?side1 ?side2 HH.out).mono ?_);(case side1 => repeat (first|exact HR.out|(with_reducible refine Kd.C_drewN ?_ _)|(with_reducible refine Kd.C_drew ?_)));(case side2 => exact HC.out);rintro e w' ⟨rfl, ⟨nd, rfl⟩⟩;(first|exact ⟨rfl, _, World.drewN_drewN _ _ _⟩|exact ⟨rfl, _, Eq.trans (World.drewN_drewN _ _ _) (congrArg (World.drewN _) (Nat.add_assoc _ _ _))⟩)))
 go_wp2
 go_ret
 exact ⟨by first|rfl|(simp;done)|(simp [*];done), by repeat (first|exact Drawn0.refl _|apply Drawn0.step)⟩
def slices_IndexFunc_int_int_106.l0 : Nat → List (List Int) → Int → Int → Int → Option (Int)
 | 0, _, _, _, _ => none
 | k + 1, x0, x1, x7, x8 => if x8 < x7 then (if 0 ≤ x8 then (if x8 < (x0.length : Int) then ((impl_lead.f k (rd_L1 x0 x8)).bind fun t148 => (if t148 = x1 then (some x8) else (slices_IndexFunc_int_int_106.l0 k x0 x1 x7 (wrap64 (x8 + 1))))) else (none)) else (none)) else (some (-1))
def slices_IndexFunc_int_int_106.f (k : Nat) (l0 : List (List Int)) (a1 : Int) : Option (Int) := slices_IndexFunc_int_int_106.l0 k l0 a1 (l0.length : Int) 0
theorem slices_IndexFunc_int_int_106.mono_l : ∀ k, (∀ y0 y1 y2 y3, LeO (slices_IndexFunc_int_int_106.l0 k y0 y1 y2 y3) (slices_IndexFunc_int_int_106.l0 (k + 1) y0 y1 y2 y3))
|0 => fun _ _ _ _ r h => by simp [slices_IndexFunc_int_int_106.l0] at h
|k + 1 => by
  have ih0 := slices_IndexFunc_int_int_106.mono_l k
  ·intro y0 y1 y2 y3
   unfold slices_IndexFunc_int_int_106.l0
   repeat' first
  |(with_reducible exact ih0 _ _ _ _)
  |(with_reducible exact impl_lead.mono _ _)
  |(with_reducible exact LeO.refl _)
  |(with_reducible exact LeO.none _)
  |(with_reducible refine LeO.ite ?_ ?_)
  |(with_reducible refine LeO.bind ?_ (fun _ => ?_))
  |exact ih0 _ _ _ _
  |exact impl_lead.mono _ _
  |exact LeO.none _
  |refine LeO.ite ?_ ?_
  |refine LeO.bind ?_ (fun _ => ?_)
theorem slices_IndexFunc_int_int_106.mono : ∀ a0 a1 k, LeO (slices_IndexFunc_int_int_106.f k a0 a1) (slices_IndexFunc_int_int_106.f (k + 1) a0 a1) := by
 intro a0 a1 k
 have ih0 := slices_IndexFunc_int_int_106.mono_l k
 unfold slices_IndexFunc_int_int_106.f
 repeat' first
  |(with_reducible exact ih0 _ _ _ _)
  |(with_reducible exact impl_lead.mono _ _)
  |(with_reducible exact LeO.refl _)
  |(with_reducible exact LeO.none _)
  |(with_reducible refine LeO.ite ?_ ?_)
  |(with_reducible refine LeO.bind ?_ (fun _ => ?_))
  |exact ih0 _ _ _ _
  |exact impl_lead.mono _ _
  |exact LeO.none _
  |refine LeO.ite ?_ ?_
  |refine LeO.bind ?_ (fun _ => ?_)
set_option maxHeartbeats 8000000 in
set_option maxRecDepth 100000 in
theorem slices_IndexFunc_int_int_106.calls (k : Nat) (A0 : Option Addr) (c0 : Nat) (l0 : List (List Int)) (a1 : Int) (r : Int) (B_ : Nat) (w : World) (hB_ : w.cell? ⟨B_, 0, none⟩ = some (.int .i64 a1)) (hr0 : Kd.C (Kd.slice 3 (Kd.int .i64)) w A0 l0.length l0) (hc0 : l0.length ≤ c0) (h : slices_IndexFunc_int_int_106.f k l0 a1 = some r) :
  Calls Try.prog 106 #[.slice A0 l0.length c0, .func (.func 107) #[] #[.pointer (some ⟨B_, 0, none⟩)]] w fun e w' => e = .returned (.int .i64 r) ∧ Drawn0 w w' := by
 have HB_ := Aside0.mk hB_
 clear hB_
 have HR0 := Aside0.mk hr0
 have HC0 := Aside0.mk hc0
 clear hr0 hc0
 have H : (slices_IndexFunc_int_int_106.l0 k l0 a1 (l0.length : Int) 0) = some r := h
 clear h
 have H' := Aside0.mk H
 clear H
 go_enter Try.func106, Try.ntmps106
 go_wp2
 go_loopg [8] k (fun kq v8 w' => ∃ (x8_1 : Int), v8 = .int .i64 x8_1 ∧ Aside0 (slices_IndexFunc_int_int_106.l0 kq l0 a1 (l0.length : Int) x8_1 = some r) ∧ Aside0 (kq ≤ k) ∧ Drawn0 w w')
 case atStart => exact ⟨(0), (by first|rfl|(simp;done)|(simp [*];done)), H', ⟨Nat.le_refl _⟩, by repeat (first|exact Drawn0.refl _|apply Drawn0.step)⟩
 case round =>
  clear H'
  try clear c1
  try clear p2
  obtain ⟨x8_1, rfl, HA, HK1, ⟨m1, rfl⟩⟩ := hrel
  cases gk with
 |zero => exact absurd HA.out (by simp [slices_IndexFunc_int_int_106.l0])
 |succ k1 =>
   have H := HA.out
   clear HA
   simp only [slices_IndexFunc_int_int_106.l0] at H
   by_cases c3 : x8_1 < (l0.length : Int)
   ·rw [if_pos c3] at H
    have c3b0 : decide (x8_1 < (l0.length : Int)) = true := decide_eq_true c3
    clear c3
    by_cases c4 : 0 ≤ x8_1
    ·rw [if_pos c4] at H
     have c4b0 : decide (0 ≤ x8_1) = true := decide_eq_true c4
     clear c4
     by_cases c5 : x8_1 < (l0.length : Int)
     ·rw [if_pos c5] at H
      have c5b0 : decide (x8_1 < (l0.length : Int)) = true := decide_eq_true c5
      clear c5
      replace H := Option.bind_eq_some_iff.mp H
      obtain ⟨t148, A60, H⟩ := H
      replace H : (if t148 = a1 then (some x8_1) else (slices_IndexFunc_int_int_106.l0 k1 l0 a1 (l0.length : Int) (wrap64 (x8_1 + 1)))) = some r := H
      have A6 := Aside0.mk A60
      clear A60
      by_cases c7 : t148 = a1
      ·rw [if_pos c7] at H
       have c7b0 : (t148 == a1) = true := beq_iff_eq.mpr c7
       have c7b1 : (t148 != a1) = false := bne_eq_false_iff_eq.mpr c7
       clear c7
       obtain rfl := Option.some.inj H
       have p147 : 0 ≤ (x8_1 : Int) := of_decide_eq_true (by first|(with_reducible assumption)|assumption)
       have q147 : x8_1 < (l0.length : Int) := of_decide_eq_true (by first|(with_reducible assumption)|assumption)
       obtain ⟨ad147, A147_0, c147_0, e147, hx147_0, hl147_0, hi147_0⟩ := at_L1 HR0.out x8_1 p147 q147
       cases e147
       have HR147_0 := Aside0.mk hi147_0
       have HC147_0 := Aside0.mk hl147_0
       clear hi147_0 hl147_0
       replace p147 := eq_true p147
       replace q147 := eq_true q147
       go_wp2_with ((with_reducible refine gate_dst (N := 16) rfl ?_);refine slices_IndexFunc_int_int_106.goesV (some 16) rfl rfl Try.func107 (by kernel_rfl) rfl #[.slice A147_0 (rd_L1 l0 x8_1).length c147_0, .pointer (some ⟨B_, 0, none⟩)] rfl rfl (by (try simp only [List.map_toArray, List.map_cons, List.map_nil]);first|done|rfl) ?_;refine (slices_IndexFunc_int_int_106.pred k1 _ _ (rd_L1 l0 x8_1) t148 a1 B_ _ ?side1 ?side2 ?side3 A6.out).mono ?_;(case side1 => repeat (first|exact HR147_0.out|(with_reducible refine Kd.C_alloc ?_ _)|(with_reducible refine Kd.C_drewN ?_ _)|(with_reducible refine Kd.C_drew ?_)));(case side2 => exact HC147_0.out);(case side3 => exact HB_.out);rintro e w_ ⟨rfl, ⟨nd_, rfl⟩⟩;refine ⟨_, rfl, ?_⟩)
       go_ret
       exact ⟨by first|rfl|(simp;done)|(simp [*];done), by repeat (first|exact Drawn0.refl _|apply Drawn0.step)⟩
      ·rw [if_neg c7] at H
       have c7b0 : (t148 == a1) = false := beq_eq_false_iff_ne.mpr c7
       have c7b1 : (t148 != a1) = true := bne_iff_ne.mpr c7
       have H' := Aside0.mk H
       clear H
       have p147 : 0 ≤ (x8_1 : Int) := of_decide_eq_true (by first|(with_reducible assumption)|assumption)
       have q147 : x8_1 < (l0.length : Int) := of_decide_eq_true (by first|(with_reducible assumption)|assumption)
       obtain ⟨ad147, A147_0, c147_0, e147, hx147_0, hl147_0, hi147_0⟩ := at_L1 HR0.out x8_1 p147 q147
       cases e147
       have HR147_0 := Aside0.mk hi147_0
       have HC147_0 := Aside0.mk hl147_0
       clear hi147_0 hl147_0
       replace p147 := eq_true p147
       replace q147 := eq_true q147
       go_wp2_with ((with_reducible refine gate_dst (N := 16) rfl ?_);refine slices_IndexFunc_int_int_106.goesV (some 16) rfl rfl Try.func107 (by kernel_rfl) rfl #[.slice A147_0 (rd_L1 l0 x8_1).length c147_0, .pointer (some ⟨B_, 0, none⟩)] rfl rfl (by (try simp only [List.map_toArray, List.map_cons, List.map_nil]);first|done|rfl) ?_;refine (slices_IndexFunc_int_int_106.pred k1 _ _ (rd_L1 l0 x8_1) t148 a1 B_ _ ?side1 ?side2 ?side3 A6.out).mono ?_;(case side1 => repeat (first|exact HR147_0.out|(with_reducible refine Kd.C_alloc ?_ _)|(with_reducible refine Kd.C_drewN ?_ _)|(with_reducible refine Kd.C_drew ?_)));(case side2 => exact HC147_0.out);(case side3 => exact HB_.out);rintro e w_ ⟨rfl, ⟨nd_, rfl⟩⟩;refine ⟨_, rfl, ?_⟩)
       go_roundg k1
       case measure => have := HK1.out;omega
       case rel => exact ⟨(wrap64 (x8_1 + 1)), (by first|rfl|(simp;done)|(simp [*];done)), H', ⟨by have := HK1.out;omega⟩, by repeat (first|exact Drawn0.refl _|apply Drawn0.step)⟩
     ·rw [if_neg c5] at H
      exact absurd H (by simp)
    ·rw [if_neg c4] at H
     exact absurd H (by simp)
   ·rw [if_neg c3] at H
    have c3b0 : decide (x8_1 < (l0.length : Int)) = false := decide_eq_false c3
    clear c3
    obtain rfl := Option.some.inj H
    go_wp2
    go_ret
    exact ⟨by first|rfl|(simp;done)|(simp [*];done), by repeat (first|exact Drawn0.refl _|apply Drawn0.step)⟩
def impl_reduceAny.l0 : Nat → Int → List Int → List Int → Int → Int → Int → Option (List Int)
 | 0, _, _, _, _, _, _ => none
 | k + 1, x9, x11, x15, x16, x66, x67 => if x67 < x66 then (if 0 ≤ x67 then (if x67 < (x15.length : Int) then (if 0 ≤ x9 then (if x9 < (x11.length : Int) then (if x67 < (x11.length : Int) then (impl_reduceAny.l0 k x9 x11 (x15.set (x67 : Int).toNat (wrap64 ((wrap64 ((rd x15 x67) * (rd x11 x9))) - (wrap64 ((rd x11 x67) * x16))))) x16 x66 (wrap64 (x67 + 1))) else (none)) else (none)) else (none)) else (none)) else (none)) else ((impl_tidy.f k x15).bind fun t154 => (some t154))
theorem impl_reduceAny.mono_l : ∀ k, (∀ y0 y1 y2 y3 y4 y5, LeO (impl_reduceAny.l0 k y0 y1 y2 y3 y4 y5) (impl_reduceAny.l0 (k + 1) y0 y1 y2 y3 y4 y5))
|0 => fun _ _ _ _ _ _ r h => by simp [impl_reduceAny.l0] at h
|k + 1 => by
  have ih0 := impl_reduceAny.mono_l k
  ·intro y0 y1 y2 y3 y4 y5
   unfold impl_reduceAny.l0
   repeat' first
  |(with_reducible exact ih0 _ _ _ _ _ _)
  |(with_reducible exact impl_tidy.mono _ _)
  |(with_reducible exact LeO.refl _)
  |(with_reducible exact LeO.none _)
  |(with_reducible refine LeO.ite ?_ ?_)
  |(with_reducible refine LeO.bind ?_ (fun _ => ?_))
  |exact ih0 _ _ _ _ _ _
  |exact impl_tidy.mono _ _
  |exact LeO.none _
  |refine LeO.ite ?_ ?_
  |refine LeO.bind ?_ (fun _ => ?_)
def impl_reduceAny.T26 : Bool × List (List Nat × List Nat) := (true, [([], []), ([], []), ([], []), ([], []), ([2, 3], [2, 3]), ([4], [4]), ([], []), ([], []), ([6, 7], [6, 7]), ([8], [8]), ([5, 9], [5, 9]), ([], []), ([], []), ([11, 12], [11, 12]), ([13], [13]), ([], []), ([14, 15], [14, 15]), ([10, 16], [10, 16]), ([0, 1, 0, 1, 2, 3, 4, 5, 6, 7, 8, 9, 10, 11, 12, 13, 14, 15, 16, 17], [0, 1]), ([18, 17, 0, 1, 2, 3, 4, 5, 6, 7, 8, 9, 10, 11, 12, 13, 14, 15, 16, 17], [17, 18])])
def impl_reduceAny.B26 : List Nat := [0, 0, 0, 0, 12, 28, 0, 0, 192, 448, 1020, 0, 0, 6144, 14336, 0, 63488, 131068, 262143, 524287]
theorem impl_reduceAny.tab26 : rtab .any (opsOf Try.f77 26) = impl_reduceAny.T26 := by kernel_rfl
theorem impl_reduceAny.bits26 : waitsOk impl_reduceAny.T26.2 impl_reduceAny.B26 = true := by kernel_rfl
def impl_reduceAny.mapO (f : List Int → Option (List Int)) : List (List Int) → Option (List (List Int))
 | [] => some []
 | x :: l => (f x).bind fun y => (impl_reduceAny.mapO f l).bind fun m => some (y :: m)
theorem impl_reduceAny.mapO_le (f g : List Int → Option (List Int)) (h : ∀ x, LeO (f x) (g x)) : ∀ l, LeO (impl_reduceAny.mapO f l) (impl_reduceAny.mapO g l)
 | [] => LeO.refl _
 | x :: l => by
  unfold impl_reduceAny.mapO
  exact LeO.bind (h x) fun y => LeO.bind (impl_reduceAny.mapO_le f g h l) fun m => LeO.refl _
theorem impl_reduceAny.mapO_some (f : List Int → Option (List Int)) : ∀ (l m : List (List Int)), impl_reduceAny.mapO f l = some m → l.length = m.length ∧ ∀ (i : Nat) (x : List Int), l[i]? = some x → ∃ y, m[i]? = some y ∧ f x = some y
|[], m, h => by
  obtain rfl := Option.some.inj h
  exact ⟨rfl, fun i x hx => by simp at hx⟩
|x :: l, m, h => by
  unfold impl_reduceAny.mapO at h
  obtain ⟨y, hy, h⟩ := Option.bind_eq_some_iff.1 h
  obtain ⟨m', hm, h⟩ := Option.bind_eq_some_iff.1 h
  obtain rfl := Option.some.inj h
  obtain ⟨h1, h2⟩ := impl_reduceAny.mapO_some f l m' hm
  refine ⟨by simp [h1], fun i z hz => ?_⟩
  cases i with
 |zero =>
   simp only [List.getElem?_cons_zero] at hz
   cases hz
   exact ⟨y, by simp, hy⟩
 |succ i =>
   simp only [List.getElem?_cons_succ] at hz ⊢
   exact h2 i z hz
theorem impl_reduceAny.mapO_append (f : List Int → Option (List Int)) : ∀ (l m l' m' : List (List Int)), impl_reduceAny.mapO f l = some m → impl_reduceAny.mapO f l' = some m' → impl_reduceAny.mapO f (l ++ l') = some (m ++ m')
 | [], m, l', m', h, h' => by
  obtain rfl := Option.some.inj h
  exact h'
 | x :: l, m, l', m', h, h' => by
  unfold impl_reduceAny.mapO at h
  obtain ⟨y, hy, h⟩ := Option.bind_eq_some_iff.1 h
  obtain ⟨m1, hm, h⟩ := Option.bind_eq_some_iff.1 h
  obtain rfl := Option.some.inj h
  show impl_reduceAny.mapO f (x :: (l ++ l')) = _
  unfold impl_reduceAny.mapO
  rw [hy, impl_reduceAny.mapO_append f l m1 l' m' hm h']
  rfl
def impl_reduceAny.row (k : Nat) (a9 : Int) (l11 l15 : List Int) : Option (List Int) := if 0 ≤ a9 then (if a9 < (l15.length : Int) then (if (rd l15 a9) = 0 then (some l15) else (impl_reduceAny.l0 k a9 l11 l15 (rd l15 a9) (l15.length : Int) 0)) else (none)) else (none)
theorem impl_reduceAny.row_mono (a9 : Int) (l11 l15 : List Int) (k : Nat) : LeO (impl_reduceAny.row k a9 l11 l15) (impl_reduceAny.row (k + 1) a9 l11 l15) := by
 have ih0 := impl_reduceAny.mono_l k
 unfold impl_reduceAny.row
 exact LeO.ite (LeO.ite (LeO.ite (LeO.refl _) (ih0 _ _ _ _ _ _)) (LeO.none _)) (LeO.none _)
def impl_reduceAny.lp (k : Nat) : Nat → Nat → List (List Int) → List (List Int) → Option (List (List Int))
 | 0, _, _, Y => some Y
 | d + 1, c, X, Y => (slices_IndexFunc_int_int_106.f k X (c : Int)).bind fun i => if i < 0 then impl_reduceAny.lp k d (c + 1) X Y else if i < (X.length : Int) then (impl_reduceAny.mapO (impl_reduceAny.row k (c : Int) (X.getD i.toNat [])) (X.eraseIdx i.toNat)).bind fun X' => (impl_reduceAny.mapO (impl_reduceAny.row k (c : Int) (X.getD i.toNat [])) Y).bind fun Y' => impl_reduceAny.lp k d (c + 1) X' (Y' ++ [X.getD i.toNat []]) else none
theorem impl_reduceAny.lp_mono (k : Nat) : ∀ d c X Y, LeO (impl_reduceAny.lp k d c X Y) (impl_reduceAny.lp (k + 1) d c X Y)
|0, c, X, Y => LeO.refl _
|d + 1, c, X, Y => by
  unfold impl_reduceAny.lp
  refine LeO.bind (slices_IndexFunc_int_int_106.mono _ _ _) fun i => LeO.ite (impl_reduceAny.lp_mono k d _ _ _) (LeO.ite ?_ (LeO.none _))
  refine LeO.bind (impl_reduceAny.mapO_le _ _ (fun x => impl_reduceAny.row_mono _ _ _ _) _) fun X' => ?_
  exact LeO.bind (impl_reduceAny.mapO_le _ _ (fun x => impl_reduceAny.row_mono _ _ _ _) _) fun Y' => impl_reduceAny.lp_mono k d _ _ _
def impl_reduceAny.f (k : Nat) (l0 : List (List Int)) (a1 : Int) : Option (List (List Int)) := (impl_copyRows.f k l0).bind fun m => if 1 ≤ a1 ∧ a1 ≤ 1000000 ∧ m.length ≤ 1000000 ∧ (∀ x ∈ m, (x.length : Int) = a1) then (impl_reduceAny.mapO (impl_tidy.f k) m).bind fun X => impl_reduceAny.lp k a1.toNat 0 X [] else none
theorem impl_reduceAny.mono : ∀ a0 a1 k, LeO (impl_reduceAny.f k a0 a1) (impl_reduceAny.f (k + 1) a0 a1) := by
 intro a0 a1 k
 unfold impl_reduceAny.f
 refine LeO.bind (impl_copyRows.mono _ _) fun m => LeO.ite ?_ (LeO.none _)
 exact LeO.bind (impl_reduceAny.mapO_le _ _ (fun x => impl_tidy.mono _ _) _) fun X => impl_reduceAny.lp_mono k _ _ _ _
theorem impl_reduceAny.open_ {k : Nat} {l0 : List (List Int)} {a1 : Int} {r : List (List Int)} (h : impl_reduceAny.f k l0 a1 = some r) :
  ∃ (n : Nat) (m X : List (List Int)), a1 = (n : Int) ∧ 0 < n ∧ n ≤ 1000000 ∧ impl_copyRows.f k l0 = some m ∧ (∀ x ∈ m, x.length = n) ∧ m.length ≤ 1000000 ∧ impl_reduceAny.mapO (impl_tidy.f k) m = some X ∧ impl_reduceAny.lp k n 0 X [] = some r := by
 unfold impl_reduceAny.f at h
 obtain ⟨m, hm, h⟩ := Option.bind_eq_some_iff.1 h
 split at h
 ·rename_i hc
  obtain ⟨X, hX, h⟩ := Option.bind_eq_some_iff.1 h
  exact ⟨a1.toNat, m, X, by omega, by omega, by omega, hm, fun x hx => by have := hc.2.2.2 x hx; omega, hc.2.2.1, hX, h⟩
 ·cases h
open YtojkepidkmkmpaaRed in
def impl_reduceAny.Inv (k n : Nat) (r : List (List Int)) (w w' : World) (c : Nat) (vR vO : Value) : Prop :=
 ∃ ps qs X Y, impl_reduceAny.lp k (n - c) c X Y = some r ∧ Spine w' w.heap.size n vR ps ∧ Spine w' w.heap.size n vO qs ∧ RowsAre w' w.heap.size n (ps ++ qs) (X ++ Y) ∧ ps.length = X.length ∧ ((ps ++ qs).map (·.1)).Nodup ∧ (∀ k, vR.ownBlock = some k → vO.ownBlock ≠ some k) ∧ ps.length ≤ 1000000 ∧ qs.length ≤ c ∧ Below w.heap.size w w'
open YtojkepidkmkmpaaRed in
set_option maxHeartbeats 8000000 in
set_option maxRecDepth 100000 in
theorem impl_reduceAny.calls (k : Nat) (A0 : Option Addr) (c0 : Nat) (l0 : List (List Int)) (a1 : Int) (r : List (List Int)) (w : World) (hr0 : Kd.C (Kd.slice 3 (Kd.int .i64)) w A0 l0.length l0) (hc0 : l0.length ≤ c0) (h : impl_reduceAny.f k l0 a1 = some r) :
  Calls Try.prog 77 #[.slice A0 l0.length c0, .int .i64 a1] w fun e w' => ∃ v0_ : Value, e = .returned (v0_) ∧ Kd.S (Kd.slice 3 (Kd.int .i64)) 23 w' w.heap.size (fun _ => True) v0_ r ∧ Below w.heap.size w w' := by
 have HR0 := Aside0.mk hr0
 have HC0 := Aside0.mk hc0
 clear hr0 hc0
 have HB := Aside0.mk (Below.refl w.heap.size w)
 obtain ⟨n, m, X1, rfl, hn0, hn1, hcp, hmn, hml, hm, hL⟩ := impl_reduceAny.open_ h
 clear h
 have ACP := Aside0.mk hcp
 have HN := Aside0.mk (And.intro hn0 hn1)
 have HMN := Aside0.mk (And.intro hmn hml)
 have HM := Aside0.mk (impl_reduceAny.mapO_some _ _ _ hm)
 have HL := Aside0.mk hL
 clear hcp hmn hm hL hn0 hn1 hml
 go_enter Try.func77, Try.ntmps77
 go_wp2_with (first|((with_reducible refine gate_callee (f := 104) rfl ?_);refine goesL_ (some 19) rfl rfl Try.func104 (by kernel_rfl) rfl #[.slice A0 l0.length c0] rfl (by (try simp only [List.map_toArray, List.map_cons, List.map_nil]);first|done|rfl|(simp only [List.length_drop, List.length_take];rfl)) ?_;(with_reducible refine (impl_copyRows.calls k _ _ l0 m _ ?side1 ?side2 ACP.out).mono ?_);(case side1 => repeat (first|exact HR0.out|(with_reducible refine Kd.C_alloc ?_ _)|(with_reducible refine Kd.C_drewN ?_ _)|(with_reducible refine Kd.C_drew ?_)));(case side2 => exact HC0.out);rintro e w4 ⟨v150, rfl, ho0, hb⟩;obtain ⟨ps0, hsp, hra, hnd⟩ := of_S ho0 HN.out.1 HMN.out.1;obtain ⟨A1, c1, e1, hle⟩ := hsp.form;subst e1;refine ⟨_, rfl, ?_⟩;have HSP := Aside0.mk hsp;have HRA := Aside0.mk hra;have HND := Aside0.mk hnd;have HLE := Aside0.mk hle;clear HB;have HB := Aside0.mk hb;clear ho0 hsp hra hnd hb hle))
 have HRA0 := HRA
 go_loopg [22] (ps0.length + 1) (fun kq v22 w' => ∃ i : Nat, v22 = .int .i64 (i : Int) ∧ Aside0 (i ≤ ps0.length ∧ kq + i = ps0.length + 1) ∧ Aside0 (RowsAre w' w.heap.size n ps0 (mix m X1 i)) ∧ Aside0 (Kept w4 w' (fun k_ => ∃ p ∈ ps0, k_ = p.1)) ∧ Aside0 (Below w.heap.size w w'))
 case atStart => exact ⟨0, by first|rfl|(simp;done), ⟨by omega, by omega⟩, ⟨by rw [mix_zero];exact HRA.out⟩, ⟨Kept.refl _ _⟩, HB⟩
 case round =>
  clear HRA HB
  obtain ⟨i, rfl, HI, HRA, HK, HB⟩ := hrel
  by_cases hi : i < ps0.length
  ·have hi2 : i < 1000000 := by have := HRA0.out.len;have := HMN.out.2;omega
   have HSPr := Aside0.mk (HSP.out.kept HK.out (fun k_ hk_ ⟨p_, hp_, e_⟩ => by
    obtain ⟨x_, hx_⟩ := (RowsAre.kept HRA0.out (Kept.refl w4 (fun _ => False)) (fun _ _ h => h)).mem hp_
    exact HSP.out.apart hx_ (by rw [hk_, e_])))
   obtain ⟨ad, p, eA, hp, hcell⟩ := HSPr.out.atN i hi
   subst eA
   obtain ⟨x, hx, hrow⟩ := HRA.out.get hp
   have hxm : m[i]? = some x := by
    rw [mix_get _ _ _ _ HM.out.1, if_neg (by omega)] at hx
    exact hx
   obtain ⟨y, hy, hf⟩ := HM.out.2 i x hxm
   have AT := Aside0.mk hf
   have HY := Aside0.mk hy
   have HP := Aside0.mk hp
   have HROW := Aside0.mk hrow
   clear hx hxm hy hf hp hrow
   go_wp2_with (first|((with_reducible refine gate_callee (f := 105) rfl ?_);refine goesL_ (some 27) rfl rfl Try.func105 (by kernel_rfl) rfl #[.slice (some ⟨p.1, 0, none⟩) n p.2] rfl (by (try simp only [List.map_toArray, List.map_cons, List.map_nil]);first|done|rfl|(simp only [List.length_drop, List.length_take];rfl)) ?_;(with_reducible refine (impl_tidy.calls k (fun k_ => k_ = p.1) (.slice (some ⟨p.1, 0, none⟩) n p.2) x y w _ ?side1 ?side2 AT.out).mono ?_);(case side1 => exact HB.out);(case side2 => exact HROW.out);rintro e w32 ⟨rfl, hy0, hb, hkp⟩;refine ⟨_, rfl, ?_⟩;have HR2 := Aside0.mk (RowsAre.step HM.out.1 HRA.out HND.out HP.out HY.out hkp (Kd.R_reok rfl hy0 (fun k_ e_ => (Option.some.inj e_).symm)));have HK2 := Aside0.mk (Kept.then_ HK.out hkp (fun k_ hs_ => Or.inl ⟨p, List.mem_of_getElem? HP.out, hs_⟩));have HB2 := Aside0.mk hb;clear hy0 hb hkp))
   go_roundg (ps0.length - i)
   case measure => have := HI.out;omega
   case rel => exact ⟨i + 1, by first|go_num|rfl|(simp;done)|(simp [*];done), ⟨by omega, by omega⟩, HR2, HK2, HB2⟩
  ·have HSPr := Aside0.mk (HSP.out.kept HK.out (fun k_ hk_ ⟨p_, hp_, e_⟩ => by
    obtain ⟨x_, hx_⟩ := (RowsAre.kept HRA0.out (Kept.refl w4 (fun _ => False)) (fun _ _ h => h)).mem hp_
    exact HSP.out.apart hx_ (by rw [hk_, e_])))
   have HINV : Aside0 (impl_reduceAny.Inv k n r w wr 0 (.slice A1 ps0.length c1) (.slice none 0 0)) := ⟨ps0, [], X1, [], HL.out, HSPr.out, Spine.nil _ _ _, by
    have h1 := HRA.out
    have h2 : i = m.length := by have := HI.out;have := HRA0.out.len;omega
    rw [h2, mix_all _ _ HM.out.1] at h1
    simpa using h1, by have := HRA0.out.len;have := HM.out.1;omega, by simpa using HND.out, by simp [Value.ownBlock], by have := HRA0.out.len;have := HMN.out.2;omega, by simp, HB.out⟩
   have HN1 := HN.out.1
   have HN2 := HN.out.2
   go_wp2
   clear HSPr HRA HK HB HI HRA0 HSP HND HLE HMN HM HL ACP HR0 HC0 hi
   go_loopg [5, 8, 30] (n + 1) (fun kq v5 v8 v30 w' => ∃ c : Nat, v30 = .int .i64 (c : Int) ∧ Aside0 (c ≤ n ∧ kq + c = n + 1) ∧ Aside0 (impl_reduceAny.Inv k n r w w' c v5 v8))
   case atStart => exact ⟨0, by first|rfl|(simp;done), ⟨by omega, by omega⟩, HINV⟩
   case round =>
    clear HINV
    obtain ⟨c, rfl, HC, HINV⟩ := hrel
    obtain ⟨ps, qs, X, Y, hlp, hsp, hso, hra, hlen, hnd, hvv, hps, hqs, hb⟩ := HINV.out
    clear HINV
    obtain ⟨A5, c5, e5, hl5⟩ := hsp.form
    subst e5
    obtain ⟨A8, c8, e8, hl8⟩ := hso.form
    subst e8
    have HSP := Aside0.mk hsp
    have HSO := Aside0.mk hso
    have HRA := Aside0.mk hra
    have HLEN := Aside0.mk hlen
    have HND := Aside0.mk hnd
    have HVV := Aside0.mk hvv
    have HB := Aside0.mk hb
    have HCAP := Aside0.mk (And.intro hl5 hl8)
    clear hsp hso hra hlen hnd hvv hb hl5 hl8
    by_cases hc : c < n
    ·obtain ⟨d, hd⟩ : ∃ d, n - c = d + 1 := ⟨n - c - 1, by omega⟩
     rw [hd] at hlp
     unfold impl_reduceAny.lp at hlp
     obtain ⟨t, ht, hlp⟩ := Option.bind_eq_some_iff.1 hlp
     have AT := Aside0.mk ht
     have HD := Aside0.mk hd
     clear ht hd
     have hc2 : c < 1000000 := by omega
     have HXC := Aside0.mk (to_C HSP.out (HRA.out.left HLEN.out) (by have h := HND.out;rw [List.map_append] at h;exact (List.nodup_append.1 h).1))
     have H106 : Aside0 (Calls Try.prog 106 #[.slice A5 ps.length c5, .func (.func 107) #[] #[.pointer (some ⟨wr.heap.size, 0, none⟩)]] (wr.alloc (.cells #[.int .i64 (c : Int)] 3)) fun e w' => e = .returned (.int .i64 t) ∧ Drawn0 (wr.alloc (.cells #[.int .i64 (c : Int)] 3)) w') := ⟨by
      have hcap := HCAP.out.1
      rw [HLEN.out] at hcap ⊢
      exact slices_IndexFunc_int_int_106.calls k _ _ X (c : Int) t wr.heap.size _ (cell_new _ _ _) (Kd.C_alloc HXC.out _) hcap AT.out⟩
     by_cases htn : t < 0
     ·rw [if_pos htn] at hlp
      have HL := Aside0.mk hlp
      clear hlp
      have c1b0 : decide (t < 0) = true := decide_eq_true htn
      go_wp2_with fail
      refine (H106.out).mono ?_
      rintro e W2 ⟨rfl, hdr⟩
      have HK2 := Aside0.mk (drawn_kept hdr (fun _ => False))
      have HB2 := Aside0.mk (drawn_below hdr HB.out)
      clear hdr
      go_wp2
      go_roundg (n - c)
      case measure => have := HC.out;omega
      case rel =>
       refine ⟨c + 1, by first|go_num|rfl|(simp;done)|(simp [*];done), ⟨by omega, by omega⟩, ⟨ps, qs, X, Y, ?_, HSP.out.kept HK2.out (fun _ _ h => h), HSO.out.kept HK2.out (fun _ _ h => h), HRA.out.kept HK2.out (fun _ _ h => h), HLEN.out, HND.out, HVV.out, hps, by omega, HB2.out⟩⟩
       have := HD.out
       rw [show n - (c + 1) = d by omega]
       exact HL.out
     ·rw [if_neg htn] at hlp
      by_cases htx : t < (X.length : Int)
      ·rw [if_pos htx] at hlp
       obtain ⟨ix, rfl⟩ : ∃ ix : Nat, t = (ix : Int) := ⟨t.toNat, by omega⟩
       rw [Int.toNat_natCast] at hlp
       obtain ⟨X2, hX2, hlp⟩ := Option.bind_eq_some_iff.1 hlp
       obtain ⟨Y2, hY2, hlp⟩ := Option.bind_eq_some_iff.1 hlp
       have hix : ix < ps.length := by have := HLEN.out;omega
       have hix2 : ix < 1000000 := by omega
       obtain ⟨P, hP⟩ : ∃ P : List Int, P = X.getD ix [] := ⟨_, rfl⟩
       rw [← hP] at hX2 hY2 hlp
       have HZ := Aside0.mk (impl_reduceAny.mapO_some _ _ _ (impl_reduceAny.mapO_append _ _ _ _ _ hX2 hY2))
       have HX2 := Aside0.mk (impl_reduceAny.mapO_some _ _ _ hX2).1
       have HL := Aside0.mk hlp
       clear hX2 hY2 hlp htx htn
       obtain ⟨g, eA, hgb, hat⟩ := HSP.out.formN (by omega)
       subst eA
       obtain ⟨p, hp, hcell0⟩ := hat ix hix
       clear hat
       have hxP : X[ix]? = some P := by
        have h1 : ix < X.length := by have := HLEN.out;omega
        rw [hP, List.getD_eq_getElem?_getD, List.getElem?_eq_getElem h1]
        rfl
       have hrowP := (HRA.out.left HLEN.out).row ix p P hp hxP
       have hPn := hrowP.len
       have HP := Aside0.mk hp
       have HROWP := Aside0.mk hrowP
       clear hP hp hxP hrowP
       subst hPn
       have c1b0 : decide ((ix : Int) < 0) = false := decide_eq_false (by omega)
       obtain ⟨pv, hpv⟩ : ∃ pv, pv = sv P.length p := ⟨_, rfl⟩
       obtain ⟨A11, c11, hpv2⟩ : ∃ A11 c11, pv = .slice A11 P.length c11 := ⟨_, _, hpv⟩
       have hcell : wr.cell? ⟨g, ix, none⟩ = some (.slice A11 P.length c11) := by rw [hcell0, ← hpv2, hpv];rfl
       have HPV := Aside0.mk (hpv2.symm.trans hpv)
       have HGB := Aside0.mk hgb
       clear hcell0 hpv hpv2 hgb
       go_wp2_with fail
       refine (H106.out).mono ?_
       rintro e W2 ⟨rfl, hdr⟩
       have HK2 := Aside0.mk (drawn_kept hdr (fun _ => False))
       have HB2 := Aside0.mk (drawn_below hdr HB.out)
       have HCB := Aside0.mk (drawn_cell hdr (cell_new _ _ _))
       have hcell2 : W2.cell? ⟨g, ix, none⟩ = some (.slice A11 P.length c11) := cell_kept hcell HK2.out (fun h => h)
       clear hcell hdr
       have hix3 : ix + 1 ≤ ps.length := hix
       go_wp2_with fail
       clear hcell2 hix3 c1b0
       refine (delete_one w.heap.size P.length g c5 ix ps ps.length W2 (HSP.out.kept HK2.out (fun _ _ h => h)) hix).mono ?_
       rintro e W3 ⟨rfl, hsp3, hk3, hb3⟩
       obtain ⟨ps1, hps1⟩ : ∃ ps1, ps1 = ps.eraseIdx ix := ⟨_, rfl⟩
       rw [← hps1] at hsp3 ⊢
       have hnd3 := nodup_erase HP.out HND.out
       rw [← hps1] at hnd3
       have HND3 := Aside0.mk hnd3
       have HND4 := Aside0.mk (perm_move HP.out HND.out)
       rw [← hps1] at HND4
       have hmem : ∀ q ∈ ps ++ qs, ¬ q.1 = g := fun q hq e_ => by
        obtain ⟨x_, hx_⟩ := HRA.out.mem hq
        exact HSP.out.apart hx_ (by rw [e_];rfl)
       have hra2 := HRA.out.kept HK2.out (fun _ _ h => h)
       have hra3 : RowsAre W3 w.heap.size P.length (ps1 ++ qs) (X.eraseIdx ix ++ Y) := by
        have h1 := (hra2.kept hk3 hmem)
        rw [hps1]
        exact ((h1.left HLEN.out).erase ix).append (h1.right HLEN.out)
       have hrp3 : RowIs W3 w.heap.size P.length p P := (HROWP.out.kept HK2.out (fun h => h)).kept hk3 (hmem p (List.mem_append_left _ (List.mem_of_getElem? HP.out)))
       have hso3 : Spine W3 w.heap.size P.length (.slice A8 qs.length c8) qs := (HSO.out.kept HK2.out (fun _ _ h => h)).kept hk3 (fun k_ hk_ e_ => HVV.out g rfl (by rw [hk_, e_]))
       have hB_ : wr.heap.size ≠ g := fun e_ => by
        have := HSP.out.lt g rfl
        omega
       have hcb3 : W3.cell? ⟨wr.heap.size, 0, none⟩ = some (.int .i64 (c : Int)) := cell_kept HCB.out hk3 hB_
       have hbb : ∀ q ∈ ps ++ qs, q.1 < wr.heap.size := fun q hq => by
        obtain ⟨x_, hx_⟩ := HRA.out.mem hq
        exact hx_.lt
       have hbb3 : ∀ q ∈ ps1 ++ qs, ¬ wr.heap.size = q.1 := fun q hq e_ => by
        have := hbb q (by
         rcases List.mem_append.1 hq with h|h
         ·rw [hps1] at h
          exact List.mem_append_left _ (List.mem_of_mem_eraseIdx h)
         ·exact List.mem_append_right _ h)
        omega
       have HRA3 := Aside0.mk hra3
       have HRP3 := Aside0.mk hrp3
       have HSP3 := Aside0.mk hsp3
       have HSO3 := Aside0.mk hso3
       have HCB3 := Aside0.mk hcb3
       have HBB3 := Aside0.mk hbb3
       have HB3 := Aside0.mk (hb3 w HB2.out HGB.out)
       have HVV3 : Aside0 (∀ k_, (Value.slice (some ⟨g, 0, none⟩) ps1.length c5).ownBlock = some k_ → (Value.slice A8 qs.length c8).ownBlock ≠ some k_) := ⟨HVV.out⟩
       have HPS3 : Aside0 (ps1.length = (X.eraseIdx ix).length) := ⟨by rw [hps1, List.length_eraseIdx, List.length_eraseIdx, HLEN.out]⟩
       have hp1 : ps1.length < 1000000 := by rw [hps1, List.length_eraseIdx, if_pos hix];omega
       have hq1 : qs.length < 1000000 := by omega
       obtain ⟨wc_, ew_⟩ : ∃ x : World, x = wr := ⟨_, rfl⟩
       subst ew_
       clear hsp3 hk3 hb3 hps1 hnd3 hmem hra2 hra3 hrp3 hso3 hB_ hcb3 hbb hbb3 HSP HSO HRA HND HVV HB HK2 HB2 HCB HXC H106 AT HLEN HCAP HROWP HGB
       go_wp2
       go_loopg [50] 3 (fun kq v50 w' => ∃ t : Nat, v50 = .int .i64 (t : Int) ∧ Aside0 (t ≤ 2 ∧ kq + t = 3) ∧ Aside0 (RowsAre w' w.heap.size P.length (ps1 ++ qs) (mix (X.eraseIdx ix ++ Y) (X2 ++ Y2) (off ps1.length qs.length t))) ∧ Aside0 (Kept W3 w' (fun k_ => ∃ p ∈ ps1 ++ qs, k_ = p.1)) ∧ Aside0 (Below w.heap.size w w'))
       case atStart => exact ⟨0, by first|rfl|(simp;done), ⟨by omega, by omega⟩, ⟨by rw [show off ps1.length qs.length 0 = 0 from rfl, mix_zero];exact HRA3.out⟩, ⟨Kept.refl _ _⟩, HB3⟩
       case round =>
        obtain ⟨t, rfl, HT, HRA, HK, HB⟩ := hrel
        have hspr := HSP3.out.kept HK.out (fun k_ hk_ ⟨p_, hp_, e_⟩ => by
         obtain ⟨x_, hx_⟩ := HRA3.out.mem hp_
         exact HSP3.out.apart hx_ (by rw [hk_, e_]))
        have hsor := HSO3.out.kept HK.out (fun k_ hk_ ⟨p_, hp_, e_⟩ => by
         obtain ⟨x_, hx_⟩ := HRA3.out.mem hp_
         exact HSO3.out.apart hx_ (by rw [hk_, e_]))
        have HSPR := Aside0.mk hspr
        have HSOR := Aside0.mk hsor
        clear hspr hsor
        by_cases ht0 : t = 0
        ·subst ht0
         have hidx := index_left (some ⟨g, 0, none⟩) A8 ps1.length qs.length c5 c8
         go_wp2
         clear hidx
         go_loopg [55] (ps1.length + 1) (fun kq v55 w' => ∃ j : Nat, v55 = .int .i64 (j : Int) ∧ Aside0 (j ≤ ps1.length ∧ kq + j = ps1.length + 1) ∧ Aside0 (RowsAre w' w.heap.size P.length (ps1 ++ qs) (mix (X.eraseIdx ix ++ Y) (X2 ++ Y2) (0 + j))) ∧ Aside0 (Kept W3 w' (fun k_ => ∃ p ∈ ps1 ++ qs, k_ = p.1)) ∧ Aside0 (Below w.heap.size w w'))
         case atStart => exact ⟨0, by first|rfl|(simp;done), ⟨by omega, by omega⟩, ⟨HRA.out⟩, HK, HB⟩
         case round =>
          clear HRA HK HB HSPR HSOR
          obtain ⟨j, rfl, HJ, HRA, HK, HB⟩ := hrel
          by_cases hj : j < ps1.length
          ·have hspj := HSP3.out.kept HK.out (fun k_ hk_ ⟨p_, hp_, e_⟩ => by
            obtain ⟨x_, hx_⟩ := HRA3.out.mem hp_
            exact HSP3.out.apart hx_ (by rw [hk_, e_]))
           obtain ⟨g2, e2, _, hat⟩ := hspj.formN (by omega)
           cases e2
           obtain ⟨q, hq, hcellq⟩ := hat j hj
           clear hat hspj
           have hqa : (ps1 ++ qs)[0 + j]? = some q := by rw [Nat.zero_add, List.getElem?_append_left hj];exact hq
           obtain ⟨x, hx, hrow⟩ := HRA.out.get hqa
           have hxx : (X.eraseIdx ix ++ Y)[0 + j]? = some x := by
            rw [mix_get _ _ _ _ HZ.out.1, if_neg (by omega)] at hx
            exact hx
           obtain ⟨y, hy, hf⟩ := HZ.out.2 _ x hxx
           clear hx hxx hq
           obtain ⟨ws_, es_⟩ : ∃ z : World, z = wr := ⟨_, rfl⟩
           subst es_
           obtain ⟨a9, ha9⟩ : ∃ a9 : Int, a9 = (c : Int) := ⟨_, rfl⟩
           have hu : (Value.slice (some ⟨q.1, 0, none⟩) x.length q.2) = sv P.length q := by rw [hrow.len];rfl
           have hcellu : ws_.cell? ⟨g, j, none⟩ = some (.slice (some ⟨q.1, 0, none⟩) x.length q.2) := by rw [hu];exact hcellq
           have HU := Aside0.mk hu
           obtain ⟨P15_, HP15⟩ : ∃ P15_ : Nat → Prop, Aside0 (∀ k_, P15_ k_ ↔ k_ = q.1) := ⟨fun k_ => k_ = q.1, ⟨fun _ => Iff.rfl⟩⟩
           have hqm : q ∈ ps1 ++ qs := List.mem_of_getElem? hqa
           have HO15 : Aside0 (Kd.R (Kd.int .i64) 3 ws_ w.heap.size (fun k_ => (P15_ k_ ∨ ws_.heap.size ≤ k_)) (.slice (some ⟨q.1, 0, none⟩) x.length q.2) x) := ⟨by rw [hu];exact Kd.R_mono hrow (fun k_ hk => .inl ((HP15.out k_).2 hk))⟩
           have HKS : Aside0 (∀ w', Kept ws_ w' (fun k_ => P15_ k_) → Kept W3 w' (fun k_ => ∃ p ∈ ps1 ++ qs, k_ = p.1)) := ⟨fun w' hk => Kept.then_ HK.out hk (fun k_ hs_ => .inl ⟨q, hqm, (HP15.out k_).1 hs_⟩)⟩
           have HR11 : Aside0 (∀ W_, Kept ws_ W_ (fun k_ => P15_ k_) → Kd.C (Kd.int .i64) W_ A11 P.length P) := ⟨fun W_ hk => by
            have h1 := HRP3.out.kept (HKS.out W_ hk) (fun ⟨p_, hp_, e_⟩ => HND3.out.2 p_ hp_ e_.symm)
            unfold RowIs at h1
            rw [← HPV.out] at h1
            exact (Kd.R_reads' h1).2.2⟩
           have HCBr : Aside0 (∀ W_, Kept ws_ W_ (fun k_ => P15_ k_) → W_.cell? ⟨wc_.heap.size, 0, none⟩ = some (.int .i64 a9)) := ⟨fun W_ hk => by
            rw [ha9]
            exact cell_kept HCB3.out (HKS.out W_ hk) (fun ⟨p_, hp_, e_⟩ => HBB3.out p_ hp_ e_)⟩
           have hcb : ws_.cell? ⟨wc_.heap.size, 0, none⟩ = some (.int .i64 a9) := HCBr.out ws_ (Kept.refl _ _)
           have HSTEP : Aside0 (∀ w', Kept ws_ w' (fun k_ => P15_ k_) → RowIs w' w.heap.size P.length q y → RowsAre w' w.heap.size P.length (ps1 ++ qs) (mix (X.eraseIdx ix ++ Y) (X2 ++ Y2) (0 + (j + 1)))) := ⟨fun w' hk hr => RowsAre.step HZ.out.1 HRA.out HND3.out.1 hqa hy (hk.mono fun k_ h_ => (HP15.out k_).1 h_) hr⟩
           have HKO := HK
           clear HK
           have HK := Aside0.mk (Kept.refl ws_ (fun k_ => P15_ k_))
           have H : (if 0 ≤ a9 then (if a9 < (x.length : Int) then (if (rd x a9) = 0 then (some x) else (impl_reduceAny.l0 k a9 P x (rd x a9) (x.length : Int) 0)) else (none)) else (none)) = some y := by rw [ha9];exact hf
           clear hf ha9 hu hcellq hrow hqa hy hqm HRA
           by_cases c17 : 0 ≤ a9
           ·rw [if_pos c17] at H
            have c17b0 : decide (0 ≤ a9) = true := decide_eq_true c17
            clear c17
            by_cases c18 : a9 < (x.length : Int)
            ·rw [if_pos c18] at H
             have c18b0 : decide (a9 < (x.length : Int)) = true := decide_eq_true c18
             clear c18
             by_cases c19 : (rd x a9) = 0
             ·rw [if_pos c19] at H
              have c19b0 : ((rd x a9) == 0) = true := beq_iff_eq.mpr c19
              have c19b1 : ((rd x a9) != 0) = false := bne_eq_false_iff_eq.mpr c19
              clear c19
              obtain rfl := Option.some.inj H
              obtain ⟨Ao20, co20, eo20⟩ := Kd.R_slice HO15.out
              cases eo20
              have p149 : 0 ≤ (a9 : Int) := of_decide_eq_true (by first|(with_reducible assumption)|assumption)
              have q149 : a9 < (x.length : Int) := of_decide_eq_true (by first|(with_reducible assumption)|assumption)
              obtain ⟨ad149, e149, hx149_0⟩ := Kd.at_int (Kd.R_reads' HO15.out).2.2 a9 p149 q149
              cases e149
              (first|simp only [add_plain] at hx149_0|skip)
              replace p149 := eq_true p149
              replace q149 := eq_true q149
              go_wp2
              go_roundg (ps1.length - j)
              case measure => have := HJ.out;omega
              case rel => exact ⟨j + 1, by first|go_num|rfl|(simp;done)|(simp [*];done), ⟨by omega, by omega⟩, ⟨HSTEP.out _ (Kept.refl _ _) (by show Kd.R (Kd.int .i64) 3 _ _ _ (sv P.length q) _;rw [← HU.out];exact Kd.R_reok rfl HO15.out (fun k_ e_ => by rw [HU.out] at e_;exact (Option.some.inj e_).symm))⟩, HKO, HB⟩
             ·rw [if_neg c19] at H
              have c19b0 : ((rd x a9) == 0) = false := beq_eq_false_iff_ne.mpr c19
              have c19b1 : ((rd x a9) != 0) = true := bne_iff_ne.mpr c19
              have H' := Aside0.mk H
              clear H
              obtain ⟨Ao21, co21, eo21⟩ := Kd.R_slice HO15.out
              cases eo21
              have p149 : 0 ≤ (a9 : Int) := of_decide_eq_true (by first|(with_reducible assumption)|assumption)
              have q149 : a9 < (x.length : Int) := of_decide_eq_true (by first|(with_reducible assumption)|assumption)
              obtain ⟨ad149, e149, hx149_0⟩ := Kd.at_int (Kd.R_reads' HO15.out).2.2 a9 p149 q149
              cases e149
              (first|simp only [add_plain] at hx149_0|skip)
              replace p149 := eq_true p149
              replace q149 := eq_true q149
              go_wp2
              go_loopg [67] k (fun kq v67 w' => ∃ (x15_1 : List Int) (x67_1 : Int), v67 = .int .i64 x67_1 ∧ Aside0 (impl_reduceAny.l0 kq a9 P x15_1 (rd x a9) (x.length : Int) x67_1 = some y) ∧ Aside0 (kq ≤ k) ∧ Aside0 (Kd.R (Kd.int .i64) 3 w' w.heap.size (fun k_ => (P15_ k_ ∨ ws_.heap.size ≤ k_)) (.slice (some (⟨q.1, 0, none⟩ : Addr)) x.length q.2) x15_1) ∧ Aside0 (Kept ws_ w' (fun k_ => P15_ k_)) ∧ Aside0 (Below w.heap.size w w'))
              case atStart => exact ⟨(x), (0), (by first|rfl|(simp;done)|(simp [*];done)), H', ⟨Nat.le_refl _⟩, ⟨by (with_reducible repeat (first|apply Kd.R_alloc|apply Kd.R_drewN|apply Kd.R_drew));exact HO15.out⟩, ⟨by repeat (first|(with_reducible first|exact HK.out|apply Kept.alloc|apply Kept.drewN|apply Kept.drew)|exact HK.out)⟩, ⟨by repeat (first|(with_reducible first|exact HB.out|apply below_alloc|apply pw_below_drewN|apply below_drew1)|exact HB.out)⟩⟩
              case round =>
               clear H'
               try clear c1
               try clear p1
               try clear q1
               try clear hx1
               try clear p2
               try clear c7
               try clear c11
               try clear p14
               try clear q14
               try clear hx14
               try clear c17
               try clear c17b0
               try clear c18
               try clear c18b0
               try clear c19
               try clear c19b0
               try clear c19b1
               try clear hx149_0
               try clear p149
               try clear q149
               obtain ⟨x15_1, x67_1, rfl, HA, HK1, HO_15, HK, HB⟩ := hrel
               have hl15_1 := (Kd.R_reads' HO_15.out).1
               rw [hl15_1] at HO_15
               (try simp only [hl15_1])
               cases gk with
              |zero => exact absurd HA.out (by simp [impl_reduceAny.l0])
              |succ k1 =>
                have H := HA.out
                clear HA
                simp only [impl_reduceAny.l0] at H
                by_cases c22 : x67_1 < (x.length : Int)
                ·rw [if_pos c22] at H
                 have c22b0 : decide (x67_1 < (x.length : Int)) = true := decide_eq_true c22
                 clear c22
                 by_cases c23 : 0 ≤ x67_1
                 ·rw [if_pos c23] at H
                  have c23b0 : decide (0 ≤ x67_1) = true := decide_eq_true c23
                  clear c23
                  by_cases c24 : x67_1 < (x15_1.length : Int)
                  ·rw [if_pos c24] at H
                   have c24b0 : decide (x67_1 < (x15_1.length : Int)) = true := decide_eq_true c24
                   clear c24
                   by_cases c25 : 0 ≤ a9
                   ·rw [if_pos c25] at H
                    have c25b0 : decide (0 ≤ a9) = true := decide_eq_true c25
                    clear c25
                    by_cases c26 : a9 < (P.length : Int)
                    ·rw [if_pos c26] at H
                     have c26b0 : decide (a9 < (P.length : Int)) = true := decide_eq_true c26
                     clear c26
                     by_cases c27 : x67_1 < (P.length : Int)
                     ·rw [if_pos c27] at H
                      have c27b0 : decide (x67_1 < (P.length : Int)) = true := decide_eq_true c27
                      clear c27
                      obtain ⟨y153, hy153⟩ : ∃ y_ : List Int, y_ = (x15_1.set (x67_1 : Int).toNat (wrap64 ((wrap64 ((rd x15_1 x67_1) * (rd P a9))) - (wrap64 ((rd P x67_1) * (rd x a9)))))) := ⟨_, rfl⟩
                      replace H : (impl_reduceAny.l0 k1 a9 P y153 (rd x a9) (x.length : Int) (wrap64 (x67_1 + 1))) = some y := by first|(rw [hy153];with_reducible exact H)|(have H2_ := (Option.bind_some _ _).symm.trans H;rw [hy153];with_reducible exact H2_)|(have H2_ := (Option.bind_some _ _).symm.trans H;with_reducible exact H2_)|with_reducible exact H|(rw [hy153];exact H)|exact H
                      have Ny153 := Aside0.mk hy153
                      clear hy153
                      have H' := Aside0.mk H
                      clear H
                      try go_wp2
                      have n0_ := Aside0.mk (Kd.R_drew HO_15.out)
                      have n1_ := Aside0.mk (Kept.drew HK.out)
                      have n2_ := Aside0.mk (below_drew1 HB.out)
                      clear HO_15
                      clear HK
                      clear HB
                      have HO_15 := n0_
                      have HK := n1_
                      have HB := n2_
                      clear n0_ n1_ n2_
                      have p150 : 0 ≤ (x67_1 : Int) := of_decide_eq_true (by first|(with_reducible assumption)|assumption)
                      have q150 : x67_1 < (x15_1.length : Int) := of_decide_eq_true (by first|(with_reducible assumption)|assumption)
                      obtain ⟨ad150, e150, hx150_0⟩ := Kd.at_int (Kd.R_reads' HO_15.out).2.2 x67_1 p150 q150
                      cases e150
                      replace p150 := eq_true p150
                      replace q150 := eq_true q150
                      have p151 : 0 ≤ (a9 : Int) := of_decide_eq_true (by first|(with_reducible assumption)|assumption)
                      have q151 : a9 < (P.length : Int) := of_decide_eq_true (by first|(with_reducible assumption)|assumption)
                      obtain ⟨ad151, e151, hx151_0⟩ := Kd.at_int (Kd.C_kept_now HR11.out HK.out) a9 p151 q151
                      have hw151_0 := hx151_0
                      cases e151
                      replace p151 := eq_true p151
                      replace q151 := eq_true q151
                      have p152 : 0 ≤ (x67_1 : Int) := of_decide_eq_true (by first|(with_reducible assumption)|assumption)
                      have q152 : x67_1 < (P.length : Int) := of_decide_eq_true (by first|(with_reducible assumption)|assumption)
                      obtain ⟨ad152, e152, hx152_0⟩ := Kd.at_int (Kd.C_kept_now HR11.out HK.out) x67_1 p152 q152
                      have hw152_0 := hx152_0
                      obtain rfl : ad151 = ad152 := (by injection e152)
                      replace p152 := eq_true p152
                      replace q152 := eq_true q152
                      have p28 : 0 ≤ (x67_1 : Int) := of_decide_eq_true (by first|(with_reducible assumption)|assumption)
                      have q28 : (x67_1 : Int) < ((x15_1.length : Int) : Int) := of_decide_eq_true (by first|(with_reducible assumption)|assumption)
                      obtain ⟨go28, co28, eo28, gb28, gl28, cl28, HG28⟩ := Kd.R_form HO_15.out (by omega)
                      (first|cases eo28|(injection eo28 with ea_ en_ ec_;(first|subst ea_|(injection ea_ with ea_;subst ea_));subst ec_;clear en_))
                      have GB28 := Aside0.mk gb28
                      have GG28 := Aside0.mk HG28
                      clear gb28 gl28 HG28
                      have HMgo28 := Aside0.mk (show (P15_ q.1 ∨ ws_.heap.size ≤ q.1) from (HO_15.out.1 _ rfl))
                      (first|simp only [add_plain] at hx149_0|skip)
                      (first|simp only [add_plain] at hx150_0|skip)
                      obtain ⟨hx28_0, hf28_0⟩ := Kd.R_celln 0 HO_15.out (x67_1 : Int) p28 q28
                      replace p28 := eq_true p28
                      replace q28 := eq_true q28
                      have HP30 := Kd.R_putn HO_15.out (x67_1 : Int) (wrap64 ((wrap64 ((rd x15_1 x67_1) * (rd P a9))) - (wrap64 ((rd P x67_1) * (rd x a9)))))
                      rw [← Ny153.out] at HP30
                      have HQ30 := Aside0.mk HP30
                      clear HP30
                      refine start_ (n := 20) (S := fun w' => w'.cell? ⟨q.1, (x67_1).toNat, none⟩ = some (.int .i64 (rd x15_1 x67_1)) ∧ w'.cell? (ad151.add (a9).toNat) = some (.int .i64 (rd P a9)) ∧ w'.cell? (ad151.add (x67_1).toNat) = some (.int .i64 (rd P x67_1)) ∧ w'.cell? ⟨wc_.heap.size, 0, none⟩ = some (.int .i64 a9)) (ds := [19]) #[false, false, false, false, false, false, false, false, false, false, false, false, false, false, false, false, false, false, false, false] (by kernel_rfl) rfl rfl ⟨hx150_0, (Kd.foot_int (HR11.out _ (by repeat (first|exact HK.out|apply Kept.alloc|apply Kept.drewN|apply Kept.drew|refine Kept.setCell ?_ HMgo28.out _))) a9 (of_eq_true p151) (of_eq_true q151)), (Kd.foot_int (HR11.out _ (by repeat (first|exact HK.out|apply Kept.alloc|apply Kept.drewN|apply Kept.drew|refine Kept.setCell ?_ HMgo28.out _))) x67_1 (of_eq_true p152) (of_eq_true q152)), (HCBr.out _ (by repeat (first|exact HK.out|apply Kept.alloc|apply Kept.drewN|apply Kept.drew|refine Kept.setCell ?_ HMgo28.out _)))⟩ (fun hHeld => ?_);refine with_tabW impl_reduceAny.tab26 impl_reduceAny.bits26 (fun HT_ HW_ => ?_)
                      generalize wr.drew = w29 at HO_15 HK HB GG28 HQ30 hf28_0 hx150_0 hx151_0 hx152_0 hx28_0 hHeld ⊢
                      refine pure_ (i := 0) (N := some 70) (v := ?_) (a' := ?_) #[true, false, false, false, false, false, false, false, false, false, false, false, false, false, false, false, false, false, false, false] rfl rfl (any_of HT_.out (by kernel_rfl)) (fun _ _ _ h => h) (Or.inl ⟨by rfl, ?_⟩) ?_ ?_
                      rotate_left
                      ·intro w'
                       go_simp
                       with_reducible rfl
                      rotate_left
                      ·simp only [Act.put, List.setIfInBounds_toArray, List.set_cons_zero, List.set_cons_succ, i64_w, i32_w]
                       rfl
                      refine pure_ (i := 1) (N := some 71) (v := ?_) (a' := ?_) #[true, true, false, false, false, false, false, false, false, false, false, false, false, false, false, false, false, false, false, false] rfl rfl (any_of HT_.out (by kernel_rfl)) (fun _ _ _ h => h) (Or.inl ⟨by rfl, ?_⟩) ?_ ?_
                      rotate_left
                      ·intro w'
                       go_simp
                       with_reducible rfl
                      rotate_left
                      ·simp only [Act.put, List.setIfInBounds_toArray, List.set_cons_zero, List.set_cons_succ, i64_w, i32_w]
                       rfl
                      refine pure_ (i := 2) (N := some 72) (v := ?_) (a' := ?_) #[true, true, true, false, false, false, false, false, false, false, false, false, false, false, false, false, false, false, false, false] rfl rfl (any_of HT_.out (by kernel_rfl)) (fun _ _ _ h => h) (Or.inl ⟨by rfl, ?_⟩) ?_ ?_
                      rotate_left
                      ·intro w'
                       go_simp
                       with_reducible rfl
                      rotate_left
                      ·simp only [Act.put, List.setIfInBounds_toArray, List.set_cons_zero, List.set_cons_succ, i64_w, i32_w]
                       rfl
                      refine pure_ (i := 3) (N := some 73) (v := ?_) (a' := ?_) #[true, true, true, true, false, false, false, false, false, false, false, false, false, false, false, false, false, false, false, false] rfl rfl (any_of HT_.out (by kernel_rfl)) (fun _ _ _ h => h) (Or.inl ⟨by rfl, ?_⟩) ?_ ?_
                      rotate_left
                      ·intro w'
                       go_simp
                       with_reducible rfl
                      rotate_left
                      ·simp only [Act.put, List.setIfInBounds_toArray, List.set_cons_zero, List.set_cons_succ, i64_w, i32_w]
                       rfl
                      refine pure_ (i := 4) (N := some 74) (v := ?_) (a' := ?_) #[true, true, true, true, true, false, false, false, false, false, false, false, false, false, false, false, false, false, false, false] rfl rfl (any_of HT_.out (by kernel_rfl)) (fun _ _ _ h => h) (Or.inl ⟨by rfl, ?_⟩) ?_ ?_
                      rotate_left
                      ·intro w'
                       go_simp
                       with_reducible rfl
                      rotate_left
                      ·simp only [Act.put, List.setIfInBounds_toArray, List.set_cons_zero, List.set_cons_succ, i64_w, i32_w]
                       rfl
                      refine pure_ (i := 6) (N := some 76) (v := ?_) (a' := ?_) #[true, true, true, true, true, false, true, false, false, false, false, false, false, false, false, false, false, false, false, false] rfl rfl (any_of HT_.out (by kernel_rfl)) (fun _ _ _ h => h) (Or.inl ⟨by rfl, ?_⟩) ?_ ?_
                      rotate_left
                      ·intro w'
                       go_simp
                       with_reducible rfl
                      rotate_left
                      ·simp only [Act.put, List.setIfInBounds_toArray, List.set_cons_zero, List.set_cons_succ, i64_w, i32_w]
                       rfl
                      refine take_ (i := 7) (N := some 77) (v := ?_) (a' := ?_) #[true, true, true, true, true, false, true, true, false, false, false, false, false, false, false, false, false, false, false, false] rfl rfl (take_ofW HT_.out HW_.out (by kernel_rfl)) (fun _ _ _ h => h) (Or.inl ⟨by rfl, ?_⟩) hHeld ?_ ?_
                      rotate_left
                      ·rintro w' ⟨s0, s1, s2, s3⟩
                       go_simp
                       with_reducible rfl
                      rotate_left
                      ·simp only [Act.put, List.setIfInBounds_toArray, List.set_cons_zero, List.set_cons_succ, i64_w, i32_w]
                       rfl
                      refine pure_ (i := 8) (N := some 78) (v := ?_) (a' := ?_) #[true, true, true, true, true, false, true, true, true, false, false, false, false, false, false, false, false, false, false, false] rfl rfl (any_of HT_.out (by kernel_rfl)) (fun _ _ _ h => h) (Or.inl ⟨by rfl, ?_⟩) ?_ ?_
                      rotate_left
                      ·intro w'
                       go_simp
                       with_reducible rfl
                      rotate_left
                      ·simp only [Act.put, List.setIfInBounds_toArray, List.set_cons_zero, List.set_cons_succ, i64_w, i32_w]
                       rfl
                      refine pure_ (i := 11) (N := some 81) (v := ?_) (a' := ?_) #[true, true, true, true, true, false, true, true, true, false, false, true, false, false, false, false, false, false, false, false] rfl rfl (any_of HT_.out (by kernel_rfl)) (fun _ _ _ h => h) (Or.inl ⟨by rfl, ?_⟩) ?_ ?_
                      rotate_left
                      ·intro w'
                       go_simp
                       with_reducible rfl
                      rotate_left
                      ·simp only [Act.put, List.setIfInBounds_toArray, List.set_cons_zero, List.set_cons_succ, i64_w, i32_w]
                       rfl
                      refine pure_ (i := 12) (N := some 82) (v := ?_) (a' := ?_) #[true, true, true, true, true, false, true, true, true, false, false, true, true, false, false, false, false, false, false, false] rfl rfl (any_of HT_.out (by kernel_rfl)) (fun _ _ _ h => h) (Or.inl ⟨by rfl, ?_⟩) ?_ ?_
                      rotate_left
                      ·intro w'
                       go_simp
                       with_reducible rfl
                      rotate_left
                      ·simp only [Act.put, List.setIfInBounds_toArray, List.set_cons_zero, List.set_cons_succ, i64_w, i32_w]
                       rfl
                      refine pure_ (i := 13) (N := some 83) (v := ?_) (a' := ?_) #[true, true, true, true, true, false, true, true, true, false, false, true, true, true, false, false, false, false, false, false] rfl rfl (any_of HT_.out (by kernel_rfl)) (fun _ _ _ h => h) (Or.inl ⟨by rfl, ?_⟩) ?_ ?_
                      rotate_left
                      ·intro w'
                       go_simp
                       with_reducible rfl
                      rotate_left
                      ·simp only [Act.put, List.setIfInBounds_toArray, List.set_cons_zero, List.set_cons_succ, i64_w, i32_w]
                       rfl
                      refine pure_ (i := 15) (N := some 85) (v := ?_) (a' := ?_) #[true, true, true, true, true, false, true, true, true, false, false, true, true, true, false, true, false, false, false, false] rfl rfl (any_of HT_.out (by kernel_rfl)) (fun _ _ _ h => h) (Or.inl ⟨by rfl, ?_⟩) ?_ ?_
                      rotate_left
                      ·intro w'
                       go_simp
                       with_reducible rfl
                      rotate_left
                      ·simp only [Act.put, List.setIfInBounds_toArray, List.set_cons_zero, List.set_cons_succ, i64_w, i32_w]
                       rfl
                      refine take_ (i := 5) (N := some 75) (v := ?_) (a' := ?_) #[true, true, true, true, true, true, true, true, true, false, false, true, true, true, false, true, false, false, false, false] rfl rfl (take_ofW HT_.out HW_.out (by kernel_rfl)) (fun _ _ _ h => h) (Or.inl ⟨by rfl, ?_⟩) hHeld ?_ ?_
                      rotate_left
                      ·rintro w' ⟨s0, s1, s2, s3⟩
                       go_simp
                       with_reducible rfl
                      rotate_left
                      ·simp only [Act.put, List.setIfInBounds_toArray, List.set_cons_zero, List.set_cons_succ, i64_w, i32_w]
                       rfl
                      refine take_ (i := 9) (N := some 79) (v := ?_) (a' := ?_) #[true, true, true, true, true, true, true, true, true, true, false, true, true, true, false, true, false, false, false, false] rfl rfl (take_ofW HT_.out HW_.out (by kernel_rfl)) (fun _ _ _ h => h) (Or.inl ⟨by rfl, ?_⟩) hHeld ?_ ?_
                      rotate_left
                      ·rintro w' ⟨s0, s1, s2, s3⟩
                       go_simp
                       with_reducible rfl
                      rotate_left
                      ·simp only [Act.put, List.setIfInBounds_toArray, List.set_cons_zero, List.set_cons_succ, i64_w, i32_w]
                       rfl
                      refine pure_ (i := 10) (N := some 80) (v := ?_) (a' := ?_) #[true, true, true, true, true, true, true, true, true, true, true, true, true, true, false, true, false, false, false, false] rfl rfl (any_of HT_.out (by kernel_rfl)) (fun _ _ _ h => h) (Or.inl ⟨by rfl, ?_⟩) ?_ ?_
                      rotate_left
                      ·intro w'
                       go_simp
                       with_reducible rfl
                      rotate_left
                      ·simp only [Act.put, List.setIfInBounds_toArray, List.set_cons_zero, List.set_cons_succ, i64_w, i32_w]
                       rfl
                      refine take_ (i := 14) (N := some 84) (v := ?_) (a' := ?_) #[true, true, true, true, true, true, true, true, true, true, true, true, true, true, true, true, false, false, false, false] rfl rfl (take_ofW HT_.out HW_.out (by kernel_rfl)) (fun _ _ _ h => h) (Or.inl ⟨by rfl, ?_⟩) hHeld ?_ ?_
                      rotate_left
                      ·rintro w' ⟨s0, s1, s2, s3⟩
                       go_simp
                       with_reducible rfl
                      rotate_left
                      ·simp only [Act.put, List.setIfInBounds_toArray, List.set_cons_zero, List.set_cons_succ, i64_w, i32_w]
                       rfl
                      refine pure_ (i := 16) (N := some 86) (v := ?_) (a' := ?_) #[true, true, true, true, true, true, true, true, true, true, true, true, true, true, true, true, true, false, false, false] rfl rfl (any_of HT_.out (by kernel_rfl)) (fun _ _ _ h => h) (Or.inl ⟨by rfl, ?_⟩) ?_ ?_
                      rotate_left
                      ·intro w'
                       go_simp
                       with_reducible rfl
                      rotate_left
                      ·simp only [Act.put, List.setIfInBounds_toArray, List.set_cons_zero, List.set_cons_succ, i64_w, i32_w]
                       rfl
                      refine pure_ (i := 17) (N := some 87) (v := ?_) (a' := ?_) #[true, true, true, true, true, true, true, true, true, true, true, true, true, true, true, true, true, true, false, false] rfl rfl (any_of HT_.out (by kernel_rfl)) (fun _ _ _ h => h) (Or.inl ⟨by rfl, ?_⟩) ?_ ?_
                      rotate_left
                      ·intro w'
                       go_simp
                       with_reducible rfl
                      rotate_left
                      ·simp only [Act.put, List.setIfInBounds_toArray, List.set_cons_zero, List.set_cons_succ, i64_w, i32_w]
                       rfl
                      refine pure_ (i := 18) (N := some 88) (v := ?_) (a' := ?_) #[true, true, true, true, true, true, true, true, true, true, true, true, true, true, true, true, true, true, true, false] rfl rfl (any_of HT_.out (by kernel_rfl)) (fun _ _ _ h => h) (Or.inl ⟨by rfl, ?_⟩) ?_ ?_
                      rotate_left
                      ·intro w'
                       go_simp
                       with_reducible rfl
                      rotate_left
                      ·simp only [Act.put, List.setIfInBounds_toArray, List.set_cons_zero, List.set_cons_succ, i64_w, i32_w]
                       rfl
                      refine last_ (i := 19) (N := none) #[true, true, true, true, true, true, true, true, true, true, true, true, true, true, true, true, true, true, true, true] rfl rfl (one_of HT_.out (by kernel_rfl)) (by decide) (fun K hK => ?_)
                      refine skip_ (w1 := ?_) (by rfl) rfl ?_ ?_
                      rotate_left
                      ·go_simp
                       rfl
                      refine hK.out _ _ ?_
                      clear hK K
                      refine done_ (done_of HT_.out (by kernel_rfl)) ?_
                      try go_wp2
                      (try simp only [← hl15_1])
                      go_roundg k1
                      case measure => have := HK1.out;omega
                      case rel => exact ⟨(y153), (wrap64 (x67_1 + 1)), (by first|rfl|(simp;done)|(simp [*];done)), H', ⟨by have := HK1.out;omega⟩, ⟨by (try simp only [hl15_1]);(with_reducible repeat (first|apply Kd.R_alloc|apply Kd.R_drewN|apply Kd.R_drew));exact HQ30.out⟩, ⟨by repeat (first|(with_reducible first|exact HK.out|apply Kept.alloc|apply Kept.drewN|apply Kept.drew|refine Kept.setCell ?_ HMgo28.out _)|exact HK.out)⟩, ⟨by repeat (first|(with_reducible first|exact HB.out|apply below_alloc|apply pw_below_drewN|apply below_drew1|refine below_set ?_ GB28.out)|exact HB.out)⟩⟩
                     ·rw [if_neg c27] at H
                      exact absurd H (by simp)
                    ·rw [if_neg c26] at H
                     exact absurd H (by simp)
                   ·rw [if_neg c25] at H
                    exact absurd H (by simp)
                  ·rw [if_neg c24] at H
                   exact absurd H (by simp)
                 ·rw [if_neg c23] at H
                  exact absurd H (by simp)
                ·rw [if_neg c22] at H
                 have c22b0 : decide (x67_1 < (x.length : Int)) = false := decide_eq_false c22
                 have c22b1 : decide (x67_1 < (x15_1.length : Int)) = false := by have h5_ := hl15_1;rw [show (x15_1.length : Int) = (x.length : Int) by omega];exact c22b0
                 clear c22
                 replace H := Option.bind_eq_some_iff.mp H
                 obtain ⟨t154, A310, H⟩ := H
                 replace H : (some t154) = some y := H
                 have A31 := Aside0.mk A310
                 clear A310
                 obtain rfl := Option.some.inj H
                 go_wp2_with (first|((with_reducible refine gate_callee (f := 105) rfl ?_);refine goesL_ (some 91) rfl rfl Try.func105 (by kernel_rfl) rfl #[.slice (some (⟨q.1, 0, none⟩ : Addr)) x15_1.length q.2] rfl (by (try simp only [List.map_toArray, List.map_cons, List.map_nil]);first|done|rfl|(simp only [List.length_drop, List.length_take];rfl)) ?_;(with_reducible refine (impl_tidy.calls k1 (fun k_ => some k_ = (.slice (some (⟨q.1, 0, none⟩ : Addr)) x15_1.length q.2 : Value).ownBlock) (.slice (some (⟨q.1, 0, none⟩ : Addr)) x15_1.length q.2) x15_1 t154 w _ ?side1 ?side2 A31.out).mono ?_);(case side1 => repeat (first|(with_reducible first|exact HB.out|apply below_alloc|apply pw_below_drewN|apply below_drew1)|exact HB.out));(case side2 => exact Kd.R_tight rfl HO_15.out);rintro e w32 ⟨rfl, hy0, hb, hkp⟩;refine ⟨_, rfl, ?_⟩;have n0_ := Aside0.mk (Kd.R_reok rfl hy0 (fun k_ e_ => HO_15.out.1 k_ e_));have n1_ := Aside0.mk (Kept.then_ (S := (fun k_ => P15_ k_)) (by repeat (first|(with_reducible first|exact HK.out|apply Kept.alloc|apply Kept.drewN|apply Kept.drew)|exact HK.out)) hkp (fun k_ hs_ => (fun e_ => (HO_15.out.1 k_ e_.symm)) hs_));have n2_ := Aside0.mk (hb);clear HO_15;clear HK;clear HB;have HO_15 := n0_;have HK := n1_;have HB := n2_;clear n0_ n1_ n2_;(try clear hb);(try clear hkp);(try clear hy0)))
                 go_roundg (ps1.length - j)
                 case measure => have := HJ.out;omega
                 case rel => exact ⟨j + 1, by first|go_num|rfl|(simp;done)|(simp [*];done), ⟨by omega, by omega⟩, ⟨HSTEP.out _ HK.out (by show Kd.R (Kd.int .i64) 3 _ _ _ (sv P.length q) _;rw [← HU.out, hl15_1];exact Kd.R_reok rfl HO_15.out (fun k_ e_ => by have e2_ := e_;(try rw [HU.out] at e2_);exact (Option.some.inj e2_).symm))⟩, ⟨HKS.out _ HK.out⟩, HB⟩
            ·rw [if_neg c18] at H
             exact absurd H (by simp)
           ·rw [if_neg c17] at H
            exact absurd H (by simp)
          ·have hje : ps1.length = j := by have := HJ.out;omega
           clear hje
           go_wp2
           go_roundg (2)
           case measure => have := HT.out;omega
           case rel => exact ⟨0 + 1, by first|rfl|(simp;done)|go_num, ⟨by omega, by omega⟩, ⟨by have h1 := HRA.out;have h2 := HJ.out;rw [show 0 + j = off ps1.length qs.length (0 + 1) by show _ = ps1.length;omega] at h1;exact h1⟩, HK, HB⟩
        ·by_cases ht1 : t = 1
         ·subst ht1
          have hidx := index_right (some ⟨g, 0, none⟩) A8 ps1.length qs.length c5 c8
          go_wp2
          clear hidx
          go_loopg [55] (qs.length + 1) (fun kq v55 w' => ∃ j : Nat, v55 = .int .i64 (j : Int) ∧ Aside0 (j ≤ qs.length ∧ kq + j = qs.length + 1) ∧ Aside0 (RowsAre w' w.heap.size P.length (ps1 ++ qs) (mix (X.eraseIdx ix ++ Y) (X2 ++ Y2) (ps1.length + j))) ∧ Aside0 (Kept W3 w' (fun k_ => ∃ p ∈ ps1 ++ qs, k_ = p.1)) ∧ Aside0 (Below w.heap.size w w'))
          case atStart => exact ⟨0, by first|rfl|(simp;done), ⟨by omega, by omega⟩, ⟨HRA.out⟩, HK, HB⟩
          case round =>
           clear HRA HK HB HSPR HSOR
           obtain ⟨j, rfl, HJ, HRA, HK, HB⟩ := hrel
           by_cases hj : j < qs.length
           ·have hspj := HSO3.out.kept HK.out (fun k_ hk_ ⟨p_, hp_, e_⟩ => by
             obtain ⟨x_, hx_⟩ := HRA3.out.mem hp_
             exact HSO3.out.apart hx_ (by rw [hk_, e_]))
            obtain ⟨g2, e2, _, hat⟩ := hspj.formN (by omega)
            cases e2
            obtain ⟨q, hq, hcellq⟩ := hat j hj
            clear hat hspj
            have hqa : (ps1 ++ qs)[ps1.length + j]? = some q := by rw [List.getElem?_append_right (by omega), Nat.add_sub_cancel_left];exact hq
            obtain ⟨x, hx, hrow⟩ := HRA.out.get hqa
            have hxx : (X.eraseIdx ix ++ Y)[ps1.length + j]? = some x := by
             rw [mix_get _ _ _ _ HZ.out.1, if_neg (by omega)] at hx
             exact hx
            obtain ⟨y, hy, hf⟩ := HZ.out.2 _ x hxx
            clear hx hxx hq
            obtain ⟨ws_, es_⟩ : ∃ z : World, z = wr := ⟨_, rfl⟩
            subst es_
            obtain ⟨a9, ha9⟩ : ∃ a9 : Int, a9 = (c : Int) := ⟨_, rfl⟩
            have hu : (Value.slice (some ⟨q.1, 0, none⟩) x.length q.2) = sv P.length q := by rw [hrow.len];rfl
            have hcellu : ws_.cell? ⟨g2, j, none⟩ = some (.slice (some ⟨q.1, 0, none⟩) x.length q.2) := by rw [hu];exact hcellq
            have HU := Aside0.mk hu
            obtain ⟨P15_, HP15⟩ : ∃ P15_ : Nat → Prop, Aside0 (∀ k_, P15_ k_ ↔ k_ = q.1) := ⟨fun k_ => k_ = q.1, ⟨fun _ => Iff.rfl⟩⟩
            have hqm : q ∈ ps1 ++ qs := List.mem_of_getElem? hqa
            have HO15 : Aside0 (Kd.R (Kd.int .i64) 3 ws_ w.heap.size (fun k_ => (P15_ k_ ∨ ws_.heap.size ≤ k_)) (.slice (some ⟨q.1, 0, none⟩) x.length q.2) x) := ⟨by rw [hu];exact Kd.R_mono hrow (fun k_ hk => .inl ((HP15.out k_).2 hk))⟩
            have HKS : Aside0 (∀ w', Kept ws_ w' (fun k_ => P15_ k_) → Kept W3 w' (fun k_ => ∃ p ∈ ps1 ++ qs, k_ = p.1)) := ⟨fun w' hk => Kept.then_ HK.out hk (fun k_ hs_ => .inl ⟨q, hqm, (HP15.out k_).1 hs_⟩)⟩
            have HR11 : Aside0 (∀ W_, Kept ws_ W_ (fun k_ => P15_ k_) → Kd.C (Kd.int .i64) W_ A11 P.length P) := ⟨fun W_ hk => by
             have h1 := HRP3.out.kept (HKS.out W_ hk) (fun ⟨p_, hp_, e_⟩ => HND3.out.2 p_ hp_ e_.symm)
             unfold RowIs at h1
             rw [← HPV.out] at h1
             exact (Kd.R_reads' h1).2.2⟩
            have HCBr : Aside0 (∀ W_, Kept ws_ W_ (fun k_ => P15_ k_) → W_.cell? ⟨wc_.heap.size, 0, none⟩ = some (.int .i64 a9)) := ⟨fun W_ hk => by
             rw [ha9]
             exact cell_kept HCB3.out (HKS.out W_ hk) (fun ⟨p_, hp_, e_⟩ => HBB3.out p_ hp_ e_)⟩
            have hcb : ws_.cell? ⟨wc_.heap.size, 0, none⟩ = some (.int .i64 a9) := HCBr.out ws_ (Kept.refl _ _)
            have HSTEP : Aside0 (∀ w', Kept ws_ w' (fun k_ => P15_ k_) → RowIs w' w.heap.size P.length q y → RowsAre w' w.heap.size P.length (ps1 ++ qs) (mix (X.eraseIdx ix ++ Y) (X2 ++ Y2) (ps1.length + (j + 1)))) := ⟨fun w' hk hr => RowsAre.step HZ.out.1 HRA.out HND3.out.1 hqa hy (hk.mono fun k_ h_ => (HP15.out k_).1 h_) hr⟩
            have HKO := HK
            clear HK
            have HK := Aside0.mk (Kept.refl ws_ (fun k_ => P15_ k_))
            have H : (if 0 ≤ a9 then (if a9 < (x.length : Int) then (if (rd x a9) = 0 then (some x) else (impl_reduceAny.l0 k a9 P x (rd x a9) (x.length : Int) 0)) else (none)) else (none)) = some y := by rw [ha9];exact hf
            clear hf ha9 hu hcellq hrow hqa hy hqm HRA
            by_cases c17 : 0 ≤ a9
            ·rw [if_pos c17] at H
             have c17b0 : decide (0 ≤ a9) = true := decide_eq_true c17
             clear c17
             by_cases c18 : a9 < (x.length : Int)
             ·rw [if_pos c18] at H
              have c18b0 : decide (a9 < (x.length : Int)) = true := decide_eq_true c18
              clear c18
              by_cases c19 : (rd x a9) = 0
              ·rw [if_pos c19] at H
               have c19b0 : ((rd x a9) == 0) = true := beq_iff_eq.mpr c19
               have c19b1 : ((rd x a9) != 0) = false := bne_eq_false_iff_eq.mpr c19
               clear c19
               obtain rfl := Option.some.inj H
               obtain ⟨Ao20, co20, eo20⟩ := Kd.R_slice HO15.out
               cases eo20
               have p149 : 0 ≤ (a9 : Int) := of_decide_eq_true (by first|(with_reducible assumption)|assumption)
               have q149 : a9 < (x.length : Int) := of_decide_eq_true (by first|(with_reducible assumption)|assumption)
               obtain ⟨ad149, e149, hx149_0⟩ := Kd.at_int (Kd.R_reads' HO15.out).2.2 a9 p149 q149
               cases e149
               (first|simp only [add_plain] at hx149_0|skip)
               replace p149 := eq_true p149
               replace q149 := eq_true q149
               go_wp2
               go_roundg (qs.length - j)
               case measure => have := HJ.out;omega
               case rel => exact ⟨j + 1, by first|go_num|rfl|(simp;done)|(simp [*];done), ⟨by omega, by omega⟩, ⟨HSTEP.out _ (Kept.refl _ _) (by show Kd.R (Kd.int .i64) 3 _ _ _ (sv P.length q) _;rw [← HU.out];exact Kd.R_reok rfl HO15.out (fun k_ e_ => by rw [HU.out] at e_;exact (Option.some.inj e_).symm))⟩, HKO, HB⟩
              ·rw [if_neg c19] at H
               have c19b0 : ((rd x a9) == 0) = false := beq_eq_false_iff_ne.mpr c19
               have c19b1 : ((rd x a9) != 0) = true := bne_iff_ne.mpr c19
               have H' := Aside0.mk H
               clear H
               obtain ⟨Ao21, co21, eo21⟩ := Kd.R_slice HO15.out
               cases eo21
               have p149 : 0 ≤ (a9 : Int) := of_decide_eq_true (by first|(with_reducible assumption)|assumption)
               have q149 : a9 < (x.length : Int) := of_decide_eq_true (by first|(with_reducible assumption)|assumption)
               obtain ⟨ad149, e149, hx149_0⟩ := Kd.at_int (Kd.R_reads' HO15.out).2.2 a9 p149 q149
               cases e149
               (first|simp only [add_plain] at hx149_0|skip)
               replace p149 := eq_true p149
               replace q149 := eq_true q149
               go_wp2
               go_loopg [67] k (fun kq v67 w' => ∃ (x15_1 : List Int) (x67_1 : Int), v67 = .int .i64 x67_1 ∧ Aside0 (impl_reduceAny.l0 kq a9 P x15_1 (rd x a9) (x.length : Int) x67_1 = some y) ∧ Aside0 (kq ≤ k) ∧ Aside0 (Kd.R (Kd.int .i64) 3 w' w.heap.size (fun k_ => (P15_ k_ ∨ ws_.heap.size ≤ k_)) (.slice (some (⟨q.1, 0, none⟩ : Addr)) x.length q.2) x15_1) ∧ Aside0 (Kept ws_ w' (fun k_ => P15_ k_)) ∧ Aside0 (Below w.heap.size w w'))
               case atStart => exact ⟨(x), (0), (by first|rfl|(simp;done)|(simp [*];done)), H', ⟨Nat.le_refl _⟩, ⟨by (with_reducible repeat (first|apply Kd.R_alloc|apply Kd.R_drewN|apply Kd.R_drew));exact HO15.out⟩, ⟨by repeat (first|(with_reducible first|exact HK.out|apply Kept.alloc|apply Kept.drewN|apply Kept.drew)|exact HK.out)⟩, ⟨by repeat (first|(with_reducible first|exact HB.out|apply below_alloc|apply pw_below_drewN|apply below_drew1)|exact HB.out)⟩⟩
               case round =>
                clear H'
                try clear c1
                try clear p1
                try clear q1
                try clear hx1
                try clear p2
                try clear c7
                try clear c11
                try clear p14
                try clear q14
                try clear hx14
                try clear c17
                try clear c17b0
                try clear c18
                try clear c18b0
                try clear c19
                try clear c19b0
                try clear c19b1
                try clear hx149_0
                try clear p149
                try clear q149
                obtain ⟨x15_1, x67_1, rfl, HA, HK1, HO_15, HK, HB⟩ := hrel
                have hl15_1 := (Kd.R_reads' HO_15.out).1
                rw [hl15_1] at HO_15
                (try simp only [hl15_1])
                cases gk with
               |zero => exact absurd HA.out (by simp [impl_reduceAny.l0])
               |succ k1 =>
                 have H := HA.out
                 clear HA
                 simp only [impl_reduceAny.l0] at H
                 by_cases c22 : x67_1 < (x.length : Int)
                 ·rw [if_pos c22] at H
                  have c22b0 : decide (x67_1 < (x.length : Int)) = true := decide_eq_true c22
                  clear c22
                  by_cases c23 : 0 ≤ x67_1
                  ·rw [if_pos c23] at H
                   have c23b0 : decide (0 ≤ x67_1) = true := decide_eq_true c23
                   clear c23
                   by_cases c24 : x67_1 < (x15_1.length : Int)
                   ·rw [if_pos c24] at H
                    have c24b0 : decide (x67_1 < (x15_1.length : Int)) = true := decide_eq_true c24
                    clear c24
                    by_cases c25 : 0 ≤ a9
                    ·rw [if_pos c25] at H
                     have c25b0 : decide (0 ≤ a9) = true := decide_eq_true c25
                     clear c25
                     by_cases c26 : a9 < (P.length : Int)
                     ·rw [if_pos c26] at H
                      have c26b0 : decide (a9 < (P.length : Int)) = true := decide_eq_true c26
                      clear c26
                      by_cases c27 : x67_1 < (P.length : Int)
                      ·rw [if_pos c27] at H
                       have c27b0 : decide (x67_1 < (P.length : Int)) = true := decide_eq_true c27
                       clear c27
                       obtain ⟨y153, hy153⟩ : ∃ y_ : List Int, y_ = (x15_1.set (x67_1 : Int).toNat (wrap64 ((wrap64 ((rd x15_1 x67_1) * (rd P a9))) - (wrap64 ((rd P x67_1) * (rd x a9)))))) := ⟨_, rfl⟩
                       replace H : (impl_reduceAny.l0 k1 a9 P y153 (rd x a9) (x.length : Int) (wrap64 (x67_1 + 1))) = some y := by first|(rw [hy153];with_reducible exact H)|(have H2_ := (Option.bind_some _ _).symm.trans H;rw [hy153];with_reducible exact H2_)|(have H2_ := (Option.bind_some _ _).symm.trans H;with_reducible exact H2_)|with_reducible exact H|(rw [hy153];exact H)|exact H
                       have Ny153 := Aside0.mk hy153
                       clear hy153
                       have H' := Aside0.mk H
                       clear H
                       try go_wp2
                       have n0_ := Aside0.mk (Kd.R_drew HO_15.out)
                       have n1_ := Aside0.mk (Kept.drew HK.out)
                       have n2_ := Aside0.mk (below_drew1 HB.out)
                       clear HO_15
                       clear HK
                       clear HB
                       have HO_15 := n0_
                       have HK := n1_
                       have HB := n2_
                       clear n0_ n1_ n2_
                       have p150 : 0 ≤ (x67_1 : Int) := of_decide_eq_true (by first|(with_reducible assumption)|assumption)
                       have q150 : x67_1 < (x15_1.length : Int) := of_decide_eq_true (by first|(with_reducible assumption)|assumption)
                       obtain ⟨ad150, e150, hx150_0⟩ := Kd.at_int (Kd.R_reads' HO_15.out).2.2 x67_1 p150 q150
                       cases e150
                       replace p150 := eq_true p150
                       replace q150 := eq_true q150
                       have p151 : 0 ≤ (a9 : Int) := of_decide_eq_true (by first|(with_reducible assumption)|assumption)
                       have q151 : a9 < (P.length : Int) := of_decide_eq_true (by first|(with_reducible assumption)|assumption)
                       obtain ⟨ad151, e151, hx151_0⟩ := Kd.at_int (Kd.C_kept_now HR11.out HK.out) a9 p151 q151
                       have hw151_0 := hx151_0
                       cases e151
                       replace p151 := eq_true p151
                       replace q151 := eq_true q151
                       have p152 : 0 ≤ (x67_1 : Int) := of_decide_eq_true (by first|(with_reducible assumption)|assumption)
                       have q152 : x67_1 < (P.length : Int) := of_decide_eq_true (by first|(with_reducible assumption)|assumption)
                       obtain ⟨ad152, e152, hx152_0⟩ := Kd.at_int (Kd.C_kept_now HR11.out HK.out) x67_1 p152 q152
                       have hw152_0 := hx152_0
                       obtain rfl : ad151 = ad152 := (by injection e152)
                       replace p152 := eq_true p152
                       replace q152 := eq_true q152
                       have p28 : 0 ≤ (x67_1 : Int) := of_decide_eq_true (by first|(with_reducible assumption)|assumption)
                       have q28 : (x67_1 : Int) < ((x15_1.length : Int) : Int) := of_decide_eq_true (by first|(with_reducible assumption)|assumption)
                       obtain ⟨go28, co28, eo28, gb28, gl28, cl28, HG28⟩ := Kd.R_form HO_15.out (by omega)
                       (first|cases eo28|(injection eo28 with ea_ en_ ec_;(first|subst ea_|(injection ea_ with ea_;subst ea_));subst ec_;clear en_))
                       have GB28 := Aside0.mk gb28
                       have GG28 := Aside0.mk HG28
                       clear gb28 gl28 HG28
                       have HMgo28 := Aside0.mk (show (P15_ q.1 ∨ ws_.heap.size ≤ q.1) from (HO_15.out.1 _ rfl))
                       (first|simp only [add_plain] at hx149_0|skip)
                       (first|simp only [add_plain] at hx150_0|skip)
                       obtain ⟨hx28_0, hf28_0⟩ := Kd.R_celln 0 HO_15.out (x67_1 : Int) p28 q28
                       replace p28 := eq_true p28
                       replace q28 := eq_true q28
                       have HP30 := Kd.R_putn HO_15.out (x67_1 : Int) (wrap64 ((wrap64 ((rd x15_1 x67_1) * (rd P a9))) - (wrap64 ((rd P x67_1) * (rd x a9)))))
                       rw [← Ny153.out] at HP30
                       have HQ30 := Aside0.mk HP30
                       clear HP30
                       refine start_ (n := 20) (S := fun w' => w'.cell? ⟨q.1, (x67_1).toNat, none⟩ = some (.int .i64 (rd x15_1 x67_1)) ∧ w'.cell? (ad151.add (a9).toNat) = some (.int .i64 (rd P a9)) ∧ w'.cell? (ad151.add (x67_1).toNat) = some (.int .i64 (rd P x67_1)) ∧ w'.cell? ⟨wc_.heap.size, 0, none⟩ = some (.int .i64 a9)) (ds := [19]) #[false, false, false, false, false, false, false, false, false, false, false, false, false, false, false, false, false, false, false, false] (by kernel_rfl) rfl rfl ⟨hx150_0, (Kd.foot_int (HR11.out _ (by repeat (first|exact HK.out|apply Kept.alloc|apply Kept.drewN|apply Kept.drew|refine Kept.setCell ?_ HMgo28.out _))) a9 (of_eq_true p151) (of_eq_true q151)), (Kd.foot_int (HR11.out _ (by repeat (first|exact HK.out|apply Kept.alloc|apply Kept.drewN|apply Kept.drew|refine Kept.setCell ?_ HMgo28.out _))) x67_1 (of_eq_true p152) (of_eq_true q152)), (HCBr.out _ (by repeat (first|exact HK.out|apply Kept.alloc|apply Kept.drewN|apply Kept.drew|refine Kept.setCell ?_ HMgo28.out _)))⟩ (fun hHeld => ?_);refine with_tabW impl_reduceAny.tab26 impl_reduceAny.bits26 (fun HT_ HW_ => ?_)
                       generalize wr.drew = w29 at HO_15 HK HB GG28 HQ30 hf28_0 hx150_0 hx151_0 hx152_0 hx28_0 hHeld ⊢
                       refine pure_ (i := 0) (N := some 70) (v := ?_) (a' := ?_) #[true, false, false, false, false, false, false, false, false, false, false, false, false, false, false, false, false, false, false, false] rfl rfl (any_of HT_.out (by kernel_rfl)) (fun _ _ _ h => h) (Or.inl ⟨by rfl, ?_⟩) ?_ ?_
                       rotate_left
                       ·intro w'
                        go_simp
                        with_reducible rfl
                       rotate_left
                       ·simp only [Act.put, List.setIfInBounds_toArray, List.set_cons_zero, List.set_cons_succ, i64_w, i32_w]
                        rfl
                       refine pure_ (i := 1) (N := some 71) (v := ?_) (a' := ?_) #[true, true, false, false, false, false, false, false, false, false, false, false, false, false, false, false, false, false, false, false] rfl rfl (any_of HT_.out (by kernel_rfl)) (fun _ _ _ h => h) (Or.inl ⟨by rfl, ?_⟩) ?_ ?_
                       rotate_left
                       ·intro w'
                        go_simp
                        with_reducible rfl
                       rotate_left
                       ·simp only [Act.put, List.setIfInBounds_toArray, List.set_cons_zero, List.set_cons_succ, i64_w, i32_w]
                        rfl
                       refine pure_ (i := 2) (N := some 72) (v := ?_) (a' := ?_) #[true, true, true, false, false, false, false, false, false, false, false, false, false, false, false, false, false, false, false, false] rfl rfl (any_of HT_.out (by kernel_rfl)) (fun _ _ _ h => h) (Or.inl ⟨by rfl, ?_⟩) ?_ ?_
                       rotate_left
                       ·intro w'
                        go_simp
                        with_reducible rfl
                       rotate_left
                       ·simp only [Act.put, List.setIfInBounds_toArray, List.set_cons_zero, List.set_cons_succ, i64_w, i32_w]
                        rfl
                       refine pure_ (i := 3) (N := some 73) (v := ?_) (a' := ?_) #[true, true, true, true, false, false, false, false, false, false, false, false, false, false, false, false, false, false, false, false] rfl rfl (any_of HT_.out (by kernel_rfl)) (fun _ _ _ h => h) (Or.inl ⟨by rfl, ?_⟩) ?_ ?_
                       rotate_left
                       ·intro w'
                        go_simp
                        with_reducible rfl
                       rotate_left
                       ·simp only [Act.put, List.setIfInBounds_toArray, List.set_cons_zero, List.set_cons_succ, i64_w, i32_w]
                        rfl
                       refine pure_ (i := 4) (N := some 74) (v := ?_) (a' := ?_) #[true, true, true, true, true, false, false, false, false, false, false, false, false, false, false, false, false, false, false, false] rfl rfl (any_of HT_.out (by kernel_rfl)) (fun _ _ _ h => h) (Or.inl ⟨by rfl, ?_⟩) ?_ ?_
                       rotate_left
                       ·intro w'
                        go_simp
                        with_reducible rfl
                       rotate_left
                       ·simp only [Act.put, List.setIfInBounds_toArray, List.set_cons_zero, List.set_cons_succ, i64_w, i32_w]
                        rfl
                       refine pure_ (i := 6) (N := some 76) (v := ?_) (a' := ?_) #[true, true, true, true, true, false, true, false, false, false, false, false, false, false, false, false, false, false, false, false] rfl rfl (any_of HT_.out (by kernel_rfl)) (fun _ _ _ h => h) (Or.inl ⟨by rfl, ?_⟩) ?_ ?_
                       rotate_left
                       ·intro w'
                        go_simp
                        with_reducible rfl
                       rotate_left
                       ·simp only [Act.put, List.setIfInBounds_toArray, List.set_cons_zero, List.set_cons_succ, i64_w, i32_w]
                        rfl
                       refine take_ (i := 7) (N := some 77) (v := ?_) (a' := ?_) #[true, true, true, true, true, false, true, true, false, false, false, false, false, false, false, false, false, false, false, false] rfl rfl (take_ofW HT_.out HW_.out (by kernel_rfl)) (fun _ _ _ h => h) (Or.inl ⟨by rfl, ?_⟩) hHeld ?_ ?_
                       rotate_left
                       ·rintro w' ⟨s0, s1, s2, s3⟩
                        go_simp
                        with_reducible rfl
                       rotate_left
                       ·simp only [Act.put, List.setIfInBounds_toArray, List.set_cons_zero, List.set_cons_succ, i64_w, i32_w]
                        rfl
                       refine pure_ (i := 8) (N := some 78) (v := ?_) (a' := ?_) #[true, true, true, true, true, false, true, true, true, false, false, false, false, false, false, false, false, false, false, false] rfl rfl (any_of HT_.out (by kernel_rfl)) (fun _ _ _ h => h) (Or.inl ⟨by rfl, ?_⟩) ?_ ?_
                       rotate_left
                       ·intro w'
                        go_simp
                        with_reducible rfl
                       rotate_left
                       ·simp only [Act.put, List.setIfInBounds_toArray, List.set_cons_zero, List.set_cons_succ, i64_w, i32_w]
                        rfl
                       refine pure_ (i := 11) (N := some 81) (v := ?_) (a' := ?_) #[true, true, true, true, true, false, true, true, true, false, false, true, false, false, false, false, false, false, false, false] rfl rfl (any_of HT_.out (by kernel_rfl)) (fun _ _ _ h => h) (Or.inl ⟨by rfl, ?_⟩) ?_ ?_
                       rotate_left
                       ·intro w'
                        go_simp
                        with_reducible rfl
                       rotate_left
                       ·simp only [Act.put, List.setIfInBounds_toArray, List.set_cons_zero, List.set_cons_succ, i64_w, i32_w]
                        rfl
                       refine pure_ (i := 12) (N := some 82) (v := ?_) (a' := ?_) #[true, true, true, true, true, false, true, true, true, false, false, true, true, false, false, false, false, false, false, false] rfl rfl (any_of HT_.out (by kernel_rfl)) (fun _ _ _ h => h) (Or.inl ⟨by rfl, ?_⟩) ?_ ?_
                       rotate_left
                       ·intro w'
                        go_simp
                        with_reducible rfl
                       rotate_left
                       ·simp only [Act.put, List.setIfInBounds_toArray, List.set_cons_zero, List.set_cons_succ, i64_w, i32_w]
                        rfl
                       refine pure_ (i := 13) (N := some 83) (v := ?_) (a' := ?_) #[true, true, true, true, true, false, true, true, true, false, false, true, true, true, false, false, false, false, false, false] rfl rfl (any_of HT_.out (by kernel_rfl)) (fun _ _ _ h => h) (Or.inl ⟨by rfl, ?_⟩) ?_ ?_
                       rotate_left
                       ·intro w'
                        go_simp
                        with_reducible rfl
                       rotate_left
                       ·simp only [Act.put, List.setIfInBounds_toArray, List.set_cons_zero, List.set_cons_succ, i64_w, i32_w]
                        rfl
                       refine pure_ (i := 15) (N := some 85) (v := ?_) (a' := ?_) #[true, true, true, true, true, false, true, true, true, false, false, true, true, true, false, true, false, false, false, false] rfl rfl (any_of HT_.out (by kernel_rfl)) (fun _ _ _ h => h) (Or.inl ⟨by rfl, ?_⟩) ?_ ?_
                       rotate_left
                       ·intro w'
                        go_simp
                        with_reducible rfl
                       rotate_left
                       ·simp only [Act.put, List.setIfInBounds_toArray, List.set_cons_zero, List.set_cons_succ, i64_w, i32_w]
                        rfl
                       refine take_ (i := 5) (N := some 75) (v := ?_) (a' := ?_) #[true, true, true, true, true, true, true, true, true, false, false, true, true, true, false, true, false, false, false, false] rfl rfl (take_ofW HT_.out HW_.out (by kernel_rfl)) (fun _ _ _ h => h) (Or.inl ⟨by rfl, ?_⟩) hHeld ?_ ?_
                       rotate_left
                       ·rintro w' ⟨s0, s1, s2, s3⟩
                        go_simp
                        with_reducible rfl
                       rotate_left
                       ·simp only [Act.put, List.setIfInBounds_toArray, List.set_cons_zero, List.set_cons_succ, i64_w, i32_w]
                        rfl
                       refine take_ (i := 9) (N := some 79) (v := ?_) (a' := ?_) #[true, true, true, true, true, true, true, true, true, true, false, true, true, true, false, true, false, false, false, false] rfl rfl (take_ofW HT_.out HW_.out (by kernel_rfl)) (fun _ _ _ h => h) (Or.inl ⟨by rfl, ?_⟩) hHeld ?_ ?_
                       rotate_left
                       ·rintro w' ⟨s0, s1, s2, s3⟩
                        go_simp
                        with_reducible rfl
                       rotate_left
                       ·simp only [Act.put, List.setIfInBounds_toArray, List.set_cons_zero, List.set_cons_succ, i64_w, i32_w]
                        rfl
                       refine pure_ (i := 10) (N := some 80) (v := ?_) (a' := ?_) #[true, true, true, true, true, true, true, true, true, true, true, true, true, true, false, true, false, false, false, false] rfl rfl (any_of HT_.out (by kernel_rfl)) (fun _ _ _ h => h) (Or.inl ⟨by rfl, ?_⟩) ?_ ?_
                       rotate_left
                       ·intro w'
                        go_simp
                        with_reducible rfl
                       rotate_left
                       ·simp only [Act.put, List.setIfInBounds_toArray, List.set_cons_zero, List.set_cons_succ, i64_w, i32_w]
                        rfl
                       refine take_ (i := 14) (N := some 84) (v := ?_) (a' := ?_) #[true, true, true, true, true, true, true, true, true, true, true, true, true, true, true, true, false, false, false, false] rfl rfl (take_ofW HT_.out HW_.out (by kernel_rfl)) (fun _ _ _ h => h) (Or.inl ⟨by rfl, ?_⟩) hHeld ?_ ?_
                       rotate_left
                       ·rintro w' ⟨s0, s1, s2, s3⟩
                        go_simp
                        with_reducible rfl
                       rotate_left
                       ·simp only [Act.put, List.setIfInBounds_toArray, List.set_cons_zero, List.set_cons_succ, i64_w, i32_w]
                        rfl
                       refine pure_ (i := 16) (N := some 86) (v := ?_) (a' := ?_) #[true, true, true, true, true, true, true, true, true, true, true, true, true, true, true, true, true, false, false, false] rfl rfl (any_of HT_.out (by kernel_rfl)) (fun _ _ _ h => h) (Or.inl ⟨by rfl, ?_⟩) ?_ ?_
                       rotate_left
                       ·intro w'
                        go_simp
                        with_reducible rfl
                       rotate_left
                       ·simp only [Act.put, List.setIfInBounds_toArray, List.set_cons_zero, List.set_cons_succ, i64_w, i32_w]
                        rfl
                       refine pure_ (i := 17) (N := some 87) (v := ?_) (a' := ?_) #[true, true, true, true, true, true, true, true, true, true, true, true, true, true, true, true, true, true, false, false] rfl rfl (any_of HT_.out (by kernel_rfl)) (fun _ _ _ h => h) (Or.inl ⟨by rfl, ?_⟩) ?_ ?_
                       rotate_left
                       ·intro w'
                        go_simp
                        with_reducible rfl
                       rotate_left
                       ·simp only [Act.put, List.setIfInBounds_toArray, List.set_cons_zero, List.set_cons_succ, i64_w, i32_w]
                        rfl
                       refine pure_ (i := 18) (N := some 88) (v := ?_) (a' := ?_) #[true, true, true, true, true, true, true, true, true, true, true, true, true, true, true, true, true, true, true, false] rfl rfl (any_of HT_.out (by kernel_rfl)) (fun _ _ _ h => h) (Or.inl ⟨by rfl, ?_⟩) ?_ ?_
                       rotate_left
                       ·intro w'
                        go_simp
                        with_reducible rfl
                       rotate_left
                       ·simp only [Act.put, List.setIfInBounds_toArray, List.set_cons_zero, List.set_cons_succ, i64_w, i32_w]
                        rfl
                       refine last_ (i := 19) (N := none) #[true, true, true, true, true, true, true, true, true, true, true, true, true, true, true, true, true, true, true, true] rfl rfl (one_of HT_.out (by kernel_rfl)) (by decide) (fun K hK => ?_)
                       refine skip_ (w1 := ?_) (by rfl) rfl ?_ ?_
                       rotate_left
                       ·go_simp
                        rfl
                       refine hK.out _ _ ?_
                       clear hK K
                       refine done_ (done_of HT_.out (by kernel_rfl)) ?_
                       try go_wp2
                       (try simp only [← hl15_1])
                       go_roundg k1
                       case measure => have := HK1.out;omega
                       case rel => exact ⟨(y153), (wrap64 (x67_1 + 1)), (by first|rfl|(simp;done)|(simp [*];done)), H', ⟨by have := HK1.out;omega⟩, ⟨by (try simp only [hl15_1]);(with_reducible repeat (first|apply Kd.R_alloc|apply Kd.R_drewN|apply Kd.R_drew));exact HQ30.out⟩, ⟨by repeat (first|(with_reducible first|exact HK.out|apply Kept.alloc|apply Kept.drewN|apply Kept.drew|refine Kept.setCell ?_ HMgo28.out _)|exact HK.out)⟩, ⟨by repeat (first|(with_reducible first|exact HB.out|apply below_alloc|apply pw_below_drewN|apply below_drew1|refine below_set ?_ GB28.out)|exact HB.out)⟩⟩
                      ·rw [if_neg c27] at H
                       exact absurd H (by simp)
                     ·rw [if_neg c26] at H
                      exact absurd H (by simp)
                    ·rw [if_neg c25] at H
                     exact absurd H (by simp)
                   ·rw [if_neg c24] at H
                    exact absurd H (by simp)
                  ·rw [if_neg c23] at H
                   exact absurd H (by simp)
                 ·rw [if_neg c22] at H
                  have c22b0 : decide (x67_1 < (x.length : Int)) = false := decide_eq_false c22
                  have c22b1 : decide (x67_1 < (x15_1.length : Int)) = false := by have h5_ := hl15_1;rw [show (x15_1.length : Int) = (x.length : Int) by omega];exact c22b0
                  clear c22
                  replace H := Option.bind_eq_some_iff.mp H
                  obtain ⟨t154, A310, H⟩ := H
                  replace H : (some t154) = some y := H
                  have A31 := Aside0.mk A310
                  clear A310
                  obtain rfl := Option.some.inj H
                  go_wp2_with (first|((with_reducible refine gate_callee (f := 105) rfl ?_);refine goesL_ (some 91) rfl rfl Try.func105 (by kernel_rfl) rfl #[.slice (some (⟨q.1, 0, none⟩ : Addr)) x15_1.length q.2] rfl (by (try simp only [List.map_toArray, List.map_cons, List.map_nil]);first|done|rfl|(simp only [List.length_drop, List.length_take];rfl)) ?_;(with_reducible refine (impl_tidy.calls k1 (fun k_ => some k_ = (.slice (some (⟨q.1, 0, none⟩ : Addr)) x15_1.length q.2 : Value).ownBlock) (.slice (some (⟨q.1, 0, none⟩ : Addr)) x15_1.length q.2) x15_1 t154 w _ ?side1 ?side2 A31.out).mono ?_);(case side1 => repeat (first|(with_reducible first|exact HB.out|apply below_alloc|apply pw_below_drewN|apply below_drew1)|exact HB.out));(case side2 => exact Kd.R_tight rfl HO_15.out);rintro e w32 ⟨rfl, hy0, hb, hkp⟩;refine ⟨_, rfl, ?_⟩;have n0_ := Aside0.mk (Kd.R_reok rfl hy0 (fun k_ e_ => HO_15.out.1 k_ e_));have n1_ := Aside0.mk (Kept.then_ (S := (fun k_ => P15_ k_)) (by repeat (first|(with_reducible first|exact HK.out|apply Kept.alloc|apply Kept.drewN|apply Kept.drew)|exact HK.out)) hkp (fun k_ hs_ => (fun e_ => (HO_15.out.1 k_ e_.symm)) hs_));have n2_ := Aside0.mk (hb);clear HO_15;clear HK;clear HB;have HO_15 := n0_;have HK := n1_;have HB := n2_;clear n0_ n1_ n2_;(try clear hb);(try clear hkp);(try clear hy0)))
                  go_roundg (qs.length - j)
                  case measure => have := HJ.out;omega
                  case rel => exact ⟨j + 1, by first|go_num|rfl|(simp;done)|(simp [*];done), ⟨by omega, by omega⟩, ⟨HSTEP.out _ HK.out (by show Kd.R (Kd.int .i64) 3 _ _ _ (sv P.length q) _;rw [← HU.out, hl15_1];exact Kd.R_reok rfl HO_15.out (fun k_ e_ => by have e2_ := e_;(try rw [HU.out] at e2_);exact (Option.some.inj e2_).symm))⟩, ⟨HKS.out _ HK.out⟩, HB⟩
             ·rw [if_neg c18] at H
              exact absurd H (by simp)
            ·rw [if_neg c17] at H
             exact absurd H (by simp)
           ·have hje : qs.length = j := by have := HJ.out;omega
            clear hje
            go_wp2
            go_roundg (1)
            case measure => have := HT.out;omega
            case rel => exact ⟨1 + 1, by first|rfl|(simp;done)|go_num, ⟨by omega, by omega⟩, ⟨by have h1 := HRA.out;have h2 := HJ.out;rw [show ps1.length + j = off ps1.length qs.length (1 + 1) by show _ = ps1.length + qs.length;omega] at h1;exact h1⟩, HK, HB⟩
         ·obtain rfl : t = 2 := by have := HT.out;omega
          go_wp2_with ((with_reducible refine gate_builtin (b := .append) (xs := #[.tmp 94, .tmp 96]) rfl ?_);at_builtin;go_loud (refine Kd.R_append (SK P.length) (w0 := w) w.heap.size rfl (.tmp 94) (.tmp 96) 22 23 (.slice none 0 0) 24 rfl Try.underlying22 info23 rfl (show (0 : Nat) < 1 by omega) (by omega) (.slice A8 qs.length c8) qs p [.slice A11 P.length c11] (fun _ => True) (fun _ => False) rfl rfl ?aP (fun _ h => h.elim) (fun _ _ => trivial) ?aO ?aB ?aS ?aL ?_);(case aP => exact (by show [_] = [_];rw [HPV.out]));(case aO => exact Kd.R_mono HSOR.out (fun _ _ => trivial));(case aB => exact HB.out);(case aS => exact HB.out.size);(case aL => omega);intro v1 w8 ho hb hg hat;have HO8 := Aside0.mk ho;have HB8 := Aside0.mk hb;have HG8 := Aside0.mk hg;have HAT := Aside0.mk hat;clear ho hb hg hat)
          go_roundg (P.length - c)
          case measure => have := HC.out;omega
          case rel =>
           have hk8 : Kept wr w8 (fun k_ => (Value.slice A8 qs.length c8).ownBlock = some k_) := ⟨HG8.out.size, fun k_ hlt hne => HG8.out.block k_ hlt (fun e_ => hne e_.symm)⟩
           have hlz := HZ.out.1
           have hyl : qs.length = Y.length := by
            have h1 := HRA3.out.len
            rw [List.length_append, List.length_append] at h1
            have := HPS3.out
            omega
           have hfin : RowsAre wr w.heap.size P.length (ps1 ++ qs) (X2 ++ Y2) := by
            have h1 := HRA.out
            rw [show off ps1.length qs.length 2 = (X.eraseIdx ix ++ Y).length by rw [List.length_append, ← HPS3.out, ← hyl];rfl, mix_all _ _ hlz] at h1
            exact h1
           have hapart : ∀ q_ ∈ ps1 ++ qs, ¬ (Value.slice A8 qs.length c8).ownBlock = some q_.1 := fun q_ hq_ e_ => by
            obtain ⟨x_, hx_⟩ := hfin.mem hq_
            exact HSOR.out.apart hx_ e_
           have hrpr : RowIs wr w.heap.size P.length p P := HRP3.out.kept HK.out (fun ⟨p_, hp_, e_⟩ => HND3.out.2 p_ hp_ e_.symm)
           have hrp8 : RowIs w8 w.heap.size P.length p P := hrpr.kept hk8 (fun e_ => HSOR.out.apart hrpr e_)
           refine ⟨c + 1, by first|go_num|rfl|(simp;done)|(simp [*];done), ⟨by omega, by omega⟩, ⟨ps1, qs ++ [p], X2, Y2 ++ [P], ?_, HSPR.out.kept hk8 (fun k_ hk_ e_ => HVV3.out k_ hk_ e_), Kd.R_tight rfl HO8.out, ?_, ?_, HND4.out, ?_, by omega, by simp;omega, HB8.out⟩⟩
           ·have := HD.out
            rw [show P.length - (c + 1) = d by omega]
            exact HL.out
           ·rw [← List.append_assoc, ← List.append_assoc]
            refine (hfin.kept hk8 hapart).append ⟨rfl, fun i_ p_ x_ hp_ hx_ => ?_⟩
            cases i_ with
           |zero =>
             simp only [List.getElem?_cons_zero, Option.some.injEq] at hp_ hx_
             subst hp_;subst hx_
             exact hrp8
           |succ i_ => simp at hp_
           ·rw [HPS3.out];exact HX2.out
           ·intro k_ hk_ e_
            rcases HAT.out with h_|⟨b_, h_, hb_⟩
            ·rw [h_] at e_
             exact HVV3.out k_ hk_ e_
            ·rw [h_] at e_
             have h2_ := HSPR.out.lt k_ hk_
             have h3_ := Option.some.inj e_
             omega
      ·rw [if_neg htx] at hlp
       cases hlp
    ·go_wp2
     have hcn : n - c = 0 := by omega
     rw [hcn] at hlp
     obtain rfl := Option.some.inj hlp
     go_ret
     exact ⟨_, by first|rfl|(simp;done)|(simp [*];done), to_S HSO.out (HRA.out.right HLEN.out) (by have h := HND.out;rw [List.map_append] at h;exact (List.nodup_append.1 h).2.1), HB.out⟩
theorem slices_Clone_int_int_78.eql_nil (w : World) (t e : TypeId) (a : Option Addr) (n c : Nat) (h : Try.prog.underlying t = some (.slice e)) :
  (Go.binOp .eql t (.slice a n c) (.slice none 0 0)).run Try.prog w = .ok (.bool a.isNone) w := Go.Lib.run_eql_slice_nil w t e a n c 0 0 h
def slices_Clone_int_int_78.f (l0 : List (List Int)) : Option ((List (List Int))) := (some (([] : List (List Int)) : List (List Int))).bind fun y156 => (if y156.length + l0.length < 5864062014805 then (some (y156 ++ l0)) else (none))
set_option maxHeartbeats 8000000 in
set_option maxRecDepth 100000 in
theorem slices_Clone_int_int_78.calls (P0_ : Nat → Prop) (A0 : Option Addr) (c0 : Nat) (l0 : List (List Int)) (r : List (List Int)) (w : World) (hs0 : Kd.V (Kd.slice 3 (Kd.int .i64)) 23 w w.heap.size (fun k_ => P0_ k_) (.slice A0 l0.length c0) l0) (h : slices_Clone_int_int_78.f l0 = some r) :
  Calls Try.prog 78 #[.slice A0 l0.length c0] w fun e w' => ∃ v0_ : Value, e = .returned (v0_) ∧ Kd.N (Kd.slice 3 (Kd.int .i64)) 23 w' w.heap.size (fun k_ => (P0_ k_ ∨ w.heap.size ≤ k_)) v0_ r ∧ Below w.heap.size w w' := by
 have HO0 := Aside0.mk (show Kd.V (Kd.slice 3 (Kd.int .i64)) 23 w w.heap.size (fun k_ => (P0_ k_ ∨ w.heap.size ≤ k_)) (.slice A0 l0.length c0) l0 from Kd.V_mono hs0 (fun k_ hk => .inl hk))
 cases A0 with
|none =>
  have hl : l0 = [] := by
   cases l0 with
  |nil => rfl
  |cons a l =>
    obtain ⟨ad, e, _⟩ := (Kd.V_reads' HO0.out).2.2.2.2 (by simp)
    cases e
  subst hl
  have hr : r = [] := by simpa [slices_Clone_int_int_78.f] using h.symm
  subst hr
  clear h
  have heq : ∀ W : World, (Go.binOp .eql 22 (.slice none 0 c0) (.slice none 0 0)).run Try.prog W = .ok (.bool true) W := fun W => slices_Clone_int_int_78.eql_nil W 22 _ _ _ _ Try.underlying22
  go_enter Try.func78, Try.ntmps78
  go_wp2
  go_ret
  exact ⟨_, rfl, Kd.N_nil _ _ _ _ _, Below.refl _ _⟩
|some ad0 =>
  have heq : ∀ W : World, (Go.binOp .eql 22 (.slice (some ad0) l0.length c0) (.slice none 0 0)).run Try.prog W = .ok (.bool false) W := fun W => slices_Clone_int_int_78.eql_nil W 22 _ _ _ _ Try.underlying22
  have HB := Aside0.mk (Below.refl w.heap.size w)
  have H : ((some (([] : List (List Int)) : List (List Int))).bind fun y156 => (if y156.length + l0.length < 5864062014805 then (some (y156 ++ l0)) else (none))) = some r := h
  clear h
  obtain ⟨y156, hy156⟩ : ∃ y_ : List (List Int), y_ = (([] : List (List Int))) := ⟨_, rfl⟩
  replace H : (if y156.length + l0.length < 5864062014805 then (some (y156 ++ l0)) else (none)) = some r := by first|(rw [hy156];with_reducible exact H)|(have H2_ := (Option.bind_some _ _).symm.trans H;rw [hy156];with_reducible exact H2_)|(have H2_ := (Option.bind_some _ _).symm.trans H;with_reducible exact H2_)|with_reducible exact H|(rw [hy156];exact H)|exact H
  have Ny156 := Aside0.mk hy156
  clear hy156
  by_cases c2 : y156.length + l0.length < 5864062014805
  ·rw [if_pos c2] at H
   have LMc2 := Aside0.mk c2
   clear c2
   obtain ⟨y159, hy159⟩ : ∃ y_ : List (List Int), y_ = (y156 ++ l0) := ⟨_, rfl⟩
   replace H : (some y159) = some r := by first|(rw [hy159];with_reducible exact H)|(have H2_ := (Option.bind_some _ _).symm.trans H;rw [hy159];with_reducible exact H2_)|(have H2_ := (Option.bind_some _ _).symm.trans H;with_reducible exact H2_)|with_reducible exact H|(rw [hy159];exact H)|exact H
   have Ny159 := Aside0.mk hy159
   clear hy159
   obtain rfl := Option.some.inj H
   go_enter Try.func78, Try.ntmps78
   go_wp2_with (first|((with_reducible refine gate_dst (N := 5) rfl ?_);refine Kd.N_lit (Kd.slice 3 (Kd.int .i64)) _ 23 ?hg (N' := 5) ?hd (xs := ([] : List (List Int))) (inner := []) (ok := (fun k_ => (P0_ k_ ∨ w.heap.size ≤ k_))) (okp := (fun k_ => (P0_ k_ ∨ w.heap.size ≤ k_))) ?hr ?hp (fun _ hk => hk) ((show ∀ k_, w.heap.size ≤ k_ → (fun k_ => (P0_ k_ ∨ w.heap.size ≤ k_)) k_ from fun k_ hk => (.inr (Nat.le_trans (below_size (by repeat first|(with_reducible first|exact HB.out|apply below_alloc|apply pw_below_drewN|apply below_drew1)|exact HB.out)) hk))) _ (Nat.le_refl _)) (Below.refl _ _) (Nat.le_refl _) (by simp) ?_;(case hd => rfl);(case hg => rfl);(case hr => first|(go_simp;done)|(go_simp;rfl));(case hp => exact (Reps.none _ _));intro v157 w3 ho4 hb hg_ hnew_;clear hg_ hnew_;(first|rw [← Ny156.out] at ho4|(simp only [Int.reduceToNat] at ho4;rw [← Ny156.out] at ho4));have n0_ := Aside0.mk (Kd.V_elder' (by (with_reducible repeat (first|apply Kd.V_alloc|apply Kd.V_drewN|apply Kd.V_drew));exact HO0.out) (Kd.N_base ho4) hb);have n1_ := Aside0.mk (Kd.N_lower ho4 (below_size (by repeat first|(with_reducible first|exact HB.out|apply below_alloc|apply pw_below_drewN|apply below_drew1)|exact HB.out)));have n2_ := Aside0.mk (below_step (by repeat first|(with_reducible first|exact HB.out|apply below_alloc|apply pw_below_drewN|apply below_drew1)|exact HB.out) hb);clear HO0;clear HB;have HO0 := n0_;have HO158 := n1_;have HB := n2_;clear n0_ n1_ n2_;clear hb ho4)|((with_reducible refine gate_builtin (b := .append) (xs := #[.tmp 5, .tmp 6]) rfl ?_);at_builtin;refine Kd.N_append_rows (Kd.slice 3 (Kd.int .i64)) (w0 := w) w.heap.size rfl (.tmp 5) (.tmp 6) 22 23 (.slice none 0 0) 24 rfl Try.underlying22 info23 rfl (by decide) (by omega) v157 y156 l0 _ _ _ (fun k_ => (P0_ k_ ∨ w.heap.size ≤ k_)) (fun k_ => ((fun k_ => (P0_ k_ ∨ w.heap.size ≤ k_))) k_ ∧ some k_ ≠ (v157 : Value).ownBlock) rfl rfl ?aO ?aR (fun _ hk => hk) ?aF ?aB ?aS ?aL ?_;(case aR => exact (by skip;exact Kd.V_F (Kd.V_mono (ok' := (fun k_ => ((fun k_ => (P0_ k_ ∨ w.heap.size ≤ k_))) k_ ∧ some k_ ≠ (v157 : Value).ownBlock)) (HO0.out) (fun k_ hk => ⟨hk.1, hk.2⟩))));(case aB => exact (by repeat first|(with_reducible first|exact HB.out|apply below_alloc|apply pw_below_drewN|apply below_drew1)|exact HB.out));(case aF => exact (fun k_ hk => (.inr (Nat.le_trans (below_size (by repeat first|(with_reducible first|exact HB.out|apply below_alloc|apply pw_below_drewN|apply below_drew1)|exact HB.out)) hk))));(case aO => exact (by (with_reducible repeat (first|apply Kd.N_alloc|apply Kd.N_drewN|apply Kd.N_drew));exact HO158.out));(case aS => exact (below_size (by repeat first|(with_reducible first|exact HB.out|apply below_alloc|apply pw_below_drewN|apply below_drew1)|exact HB.out)));(case aL => have := LMc2.out;omega);intro v160 w5 ho hb hg hat;rw [← Ny159.out] at ho;have n0_ := Aside0.mk (Kd.V_afterv (ok := (fun k_ => (P0_ k_ ∨ w.heap.size ≤ k_))) (by (with_reducible repeat (first|apply Kd.V_alloc|apply Kd.V_drewN|apply Kd.V_drew));exact HO0.out) hg hat);have n1_ := Aside0.mk (hb);have n2_ := Aside0.mk (ho);clear HO0;clear HB;clear HO158;have HO0 := n0_;have HB := n1_;have HO161 := n2_;clear n0_ n1_ n2_;clear ho hb hg hat))
   go_ret
   exact ⟨_, by first|rfl|(simp [errW_none, errW_some] <;> rfl)|(simp [*, errW_none, errW_some] <;> rfl), by (with_reducible repeat (first|apply Kd.N_alloc|apply Kd.N_drewN|apply Kd.N_drew));exact HO161.out, by repeat (first|(with_reducible first|exact HB.out|apply below_alloc|apply pw_below_drewN|apply below_drew1)|exact HB.out)⟩
  ·rw [if_neg c2] at H
   exact absurd H (by simp)
def impl_IsInSpan.j0 : Nat → List (List Int) → List Int → Int → Bool → Option (Bool)
 | 0, _, _, _, _ => none
 | k + 1, x0, x1, x5, x18 => if x18 = true then (some false) else ((impl_reduceAny.f k x0 x5).bind fun t167 => ((slices_Clone_int_int_78.f x0).bind fun t170 => (if t170.length < 5864062014805 then ((impl_reduceAny.f k (t170 ++ [x1]) x5).bind fun t176 => (some ((t167.length : Int) == (t176.length : Int)))) else (none))))
def impl_IsInSpan.f (k : Nat) (l0 : List (List Int)) (l1 : List Int) : Option (Bool) := (impl_IsMatrix.f k l0 (l1.length : Int)).bind fun t162 => (if t162 = true then ((impl_IsMatrix.f k (([l1] : List (List Int))) (l1.length : Int)).bind fun t166 => (impl_IsInSpan.j0 k l0 l1 (l1.length : Int) (!t166))) else (impl_IsInSpan.j0 k l0 l1 (l1.length : Int) true))
theorem impl_IsInSpan.mono_l : ∀ k, (∀ y0 y1 y2 y3, LeO (impl_IsInSpan.j0 k y0 y1 y2 y3) (impl_IsInSpan.j0 (k + 1) y0 y1 y2 y3))
|0 => fun _ _ _ _ r h => by simp [impl_IsInSpan.j0] at h
|k + 1 => by
  have ih0 := impl_IsInSpan.mono_l k
  ·intro y0 y1 y2 y3
   unfold impl_IsInSpan.j0
   repeat' first
  |(with_reducible exact ih0 _ _ _ _)
  |(with_reducible exact impl_IsMatrix.mono _ _ _)
  |(with_reducible exact impl_reduceAny.mono _ _ _)
  |(with_reducible exact LeO.refl _)
  |(with_reducible exact LeO.none _)
  |(with_reducible refine LeO.ite ?_ ?_)
  |(with_reducible refine LeO.bind ?_ (fun _ => ?_))
  |exact ih0 _ _ _ _
  |exact impl_IsMatrix.mono _ _ _
  |exact impl_reduceAny.mono _ _ _
  |exact LeO.none _
  |refine LeO.ite ?_ ?_
  |refine LeO.bind ?_ (fun _ => ?_)
theorem impl_IsInSpan.mono : ∀ a0 a1 k, LeO (impl_IsInSpan.f k a0 a1) (impl_IsInSpan.f (k + 1) a0 a1) := by
 intro a0 a1 k
 have ih0 := impl_IsInSpan.mono_l k
 unfold impl_IsInSpan.f
 repeat' first
  |(with_reducible exact ih0 _ _ _ _)
  |(with_reducible exact impl_IsMatrix.mono _ _ _)
  |(with_reducible exact impl_reduceAny.mono _ _ _)
  |(with_reducible exact LeO.refl _)
  |(with_reducible exact LeO.none _)
  |(with_reducible refine LeO.ite ?_ ?_)
  |(with_reducible refine LeO.bind ?_ (fun _ => ?_))
  |exact ih0 _ _ _ _
  |exact impl_IsMatrix.mono _ _ _
  |exact impl_reduceAny.mono _ _ _
  |exact LeO.none _
  |refine LeO.ite ?_ ?_
  |refine LeO.bind ?_ (fun _ => ?_)
set_option maxHeartbeats 8000000 in
set_option maxRecDepth 100000 in
theorem impl_IsInSpan.calls (k : Nat) (P0_ : Nat → Prop) (A0 : Option Addr) (c0 : Nat) (l0 : List (List Int)) (P1_ : Nat → Prop) (A1 : Option Addr) (c1 : Nat) (l1 : List Int) (r : Bool) (w : World) (hs0 : Kd.V (Kd.slice 3 (Kd.int .i64)) 23 w w.heap.size (fun k_ => P0_ k_) (.slice A0 l0.length c0) l0) (hs1 : Kd.V (Kd.int .i64) 3 w w.heap.size (fun k_ => P1_ k_) (.slice A1 l1.length c1) l1) (h : impl_IsInSpan.f k l0 l1 = some r) :
  Calls Try.prog 30 #[.slice A0 l0.length c0, .slice A1 l1.length c1] w fun e w' => e = .returned (.bool r) ∧ Below w.heap.size w w' := by
 have HO0 := Aside0.mk (show Kd.V (Kd.slice 3 (Kd.int .i64)) 23 w w.heap.size (fun k_ => ((P0_ k_ ∨ P1_ k_) ∨ w.heap.size ≤ k_)) (.slice A0 l0.length c0) l0 from Kd.V_mono hs0 (fun k_ hk => .inl (.inl hk)))
 have HO1 := Aside0.mk (show Kd.V (Kd.int .i64) 3 w w.heap.size (fun k_ => ((P0_ k_ ∨ P1_ k_) ∨ w.heap.size ≤ k_)) (.slice A1 l1.length c1) l1 from Kd.V_mono hs1 (fun k_ hk => .inl (.inr hk)))
 have HB := Aside0.mk (Below.refl w.heap.size w)
 have H : ((impl_IsMatrix.f k l0 (l1.length : Int)).bind fun t162 => (if t162 = true then ((impl_IsMatrix.f k (([l1] : List (List Int))) (l1.length : Int)).bind fun t166 => (impl_IsInSpan.j0 k l0 l1 (l1.length : Int) (!t166))) else (impl_IsInSpan.j0 k l0 l1 (l1.length : Int) true))) = some r := h
 clear h
 have HC3 := Aside0.mk H
 clear H
 go_enter Try.func30, Try.ntmps30
 go_upto_region 2 with (fail)
 go_cut [18] (fun v18 wc => ∃ (kq : Nat) (x18_2 : Bool), v18 = .bool x18_2 ∧ Aside0 (impl_IsInSpan.j0 kq l0 l1 (l1.length : Int) x18_2 = some r) ∧ Aside0 (kq ≤ k) ∧ Aside0 (Kd.V (Kd.slice 3 (Kd.int .i64)) 23 wc w.heap.size (fun k_ => ((P0_ k_ ∨ P1_ k_) ∨ w.heap.size ≤ k_)) (.slice A0 l0.length c0) l0) ∧ Aside0 (Kd.V (Kd.int .i64) 3 wc w.heap.size (fun k_ => ((P0_ k_ ∨ P1_ k_) ∨ w.heap.size ≤ k_)) (.slice A1 l1.length c1) l1) ∧ Aside0 (Below w.heap.size w wc))
 case first =>
  have H := HC3.out
  clear HC3
  replace H := Option.bind_eq_some_iff.mp H
  obtain ⟨t162, A40, H⟩ := H
  replace H : (if t162 = true then ((impl_IsMatrix.f k (([l1] : List (List Int))) (l1.length : Int)).bind fun t166 => (impl_IsInSpan.j0 k l0 l1 (l1.length : Int) (!t166))) else (impl_IsInSpan.j0 k l0 l1 (l1.length : Int) true)) = some r := H
  have A4 := Aside0.mk A40
  clear A40
  by_cases c5 : t162 = true
  ·subst c5
   have H1 : ((impl_IsMatrix.f k (([l1] : List (List Int))) (l1.length : Int)).bind fun t166 => (impl_IsInSpan.j0 k l0 l1 (l1.length : Int) (!t166))) = some r := by rw [if_pos rfl] at H;exact H
   clear H
   have H := H1
   clear H1
   obtain ⟨y163, hy163⟩ : ∃ y_ : List (List Int), y_ = (([l1] : List (List Int))) := ⟨_, rfl⟩
   replace H : ((impl_IsMatrix.f k y163 (l1.length : Int)).bind fun t166 => (impl_IsInSpan.j0 k l0 l1 (l1.length : Int) (!t166))) = some r := by first|(rw [hy163];with_reducible exact H)|(have H2_ := (Option.bind_some _ _).symm.trans H;rw [hy163];with_reducible exact H2_)|(have H2_ := (Option.bind_some _ _).symm.trans H;with_reducible exact H2_)|with_reducible exact H|(rw [hy163];exact H)|exact H
   have Ny163 := Aside0.mk hy163
   clear hy163
   replace H := Option.bind_eq_some_iff.mp H
   obtain ⟨t166, A60, H⟩ := H
   replace H : (impl_IsInSpan.j0 k l0 l1 (l1.length : Int) (!t166)) = some r := H
   have A6 := Aside0.mk A60
   clear A60
   have H' := Aside0.mk H
   clear H
   go_wp2_with ((with_reducible refine gate_callee (f := 40) rfl ?_);refine goesL_ (some 10) rfl rfl Try.func40 (by kernel_rfl) rfl #[.slice A0 l0.length c0, .int .i64 (l1.length : Int)] rfl (by (try simp only [List.map_toArray, List.map_cons, List.map_nil]);first|done|rfl|(simp only [List.length_drop, List.length_take];rfl)) ?_;(with_reducible refine (impl_IsMatrix.calls k _ _ l0 (l1.length : Int) true _ ?side1 ?side2 A4.out).mono ?_);(case side1 => repeat (first|exact (Kd.V_reads' HO0.out).2.2|(with_reducible refine Kd.C_alloc ?_ _)|(with_reducible refine Kd.C_drewN ?_ _)|(with_reducible refine Kd.C_drew ?_)));(case side2 => exact (Kd.V_reads' HO0.out).2.1);rintro e w' ⟨rfl, ⟨nd, rfl⟩⟩;refine ⟨_, rfl, ?_⟩)
   have A6b := Aside0.mk (show impl_IsMatrix.f k ([l1] : List (List Int)) (l1.length : Int) = some t166 by rw [← Ny163.out];exact A6.out)
   refine (impl_IsMatrix.calls k _ _ ([l1] : List (List Int)) (l1.length : Int) t166 _ ?sideA ?sideB A6b.out).mono ?_
   case sideA => exact YtojkepidkmkmpaaRed.one_C (Kd.C_alloc (Kd.C_drewN (Kd.V_reads' HO1.out).2.2 _) _) (Kd.V_reads' HO1.out).2.1 (YtojkepidkmkmpaaRed.cell_new _ _ _)
   case sideB => exact Nat.le_refl _
   rintro e w' ⟨rfl, ⟨nd2_, rfl⟩⟩
   go_wp2
   go_meet
   case rel => exact ⟨_, (!t166), (by first|rfl|(simp;done)|(simp [*];done)), H', ⟨by first|omega|exact Nat.le_refl _⟩, ⟨by (with_reducible repeat (first|apply Kd.V_alloc|apply Kd.V_drewN|apply Kd.V_drew));(first|exact HO0.out|exact Kd.V_mono HO0.out (fun _ hk => hk.1))⟩, ⟨by (with_reducible repeat (first|apply Kd.V_alloc|apply Kd.V_drewN|apply Kd.V_drew));(first|exact HO1.out|exact Kd.V_mono HO1.out (fun _ hk => hk.1))⟩, ⟨by repeat (first|(with_reducible first|exact HB.out|apply below_alloc|apply pw_below_drewN|apply below_drew1)|exact HB.out)⟩⟩
  ·replace c5 := Bool.eq_false_iff.mpr c5
   subst c5
   have H1 : (impl_IsInSpan.j0 k l0 l1 (l1.length : Int) true) = some r := by rw [if_neg (show ¬ (false = true) by decide)] at H;exact H
   clear H
   have H := H1
   clear H1
   have H' := Aside0.mk H
   clear H
   go_wp2_with (first|((with_reducible refine gate_callee (f := 40) rfl ?_);refine goesL_ (some 10) rfl rfl Try.func40 (by kernel_rfl) rfl #[.slice A0 l0.length c0, .int .i64 (l1.length : Int)] rfl (by (try simp only [List.map_toArray, List.map_cons, List.map_nil]);first|done|rfl|(simp only [List.length_drop, List.length_take];rfl)) ?_;(with_reducible refine (impl_IsMatrix.calls k _ _ l0 (l1.length : Int) false _ ?side1 ?side2 A4.out).mono ?_);(case side1 => repeat (first|exact (Kd.V_reads' HO0.out).2.2|(with_reducible refine Kd.C_alloc ?_ _)|(with_reducible refine Kd.C_drewN ?_ _)|(with_reducible refine Kd.C_drew ?_)));(case side2 => exact (Kd.V_reads' HO0.out).2.1);rintro e w' ⟨rfl, ⟨nd, rfl⟩⟩;refine ⟨_, rfl, ?_⟩))
   go_meet
   case rel => exact ⟨_, (true), (by first|rfl|(simp;done)|(simp [*];done)), H', ⟨by first|omega|exact Nat.le_refl _⟩, ⟨by (with_reducible repeat (first|apply Kd.V_alloc|apply Kd.V_drewN|apply Kd.V_drew));exact HO0.out⟩, ⟨by (with_reducible repeat (first|apply Kd.V_alloc|apply Kd.V_drewN|apply Kd.V_drew));exact HO1.out⟩, ⟨by repeat (first|(with_reducible first|exact HB.out|apply below_alloc|apply pw_below_drewN|apply below_drew1)|exact HB.out)⟩⟩
 case rest =>
  clear HC3
  try clear c1
  try clear p2
  try clear c3
  try clear c4
  try clear c5
  obtain ⟨kq, x18_2, rfl, HA, HJ2, HO_0, HO_1, HB⟩ := hcut
  cases kq with
 |zero => exact absurd HA.out (by simp [impl_IsInSpan.j0])
 |succ kj2 =>
   have H := HA.out
   clear HA
   simp only [impl_IsInSpan.j0] at H
   by_cases c10 : x18_2 = true
   ·subst c10
    have H1 : (some false) = some r := by rw [if_pos rfl] at H;exact H
    clear H
    have H := H1
    clear H1
    obtain rfl := Option.some.inj H
    go_wp2
    go_ret
    exact ⟨by first|rfl|(simp [errW_none, errW_some] <;> rfl)|(simp [*, errW_none, errW_some] <;> rfl), by repeat (first|(with_reducible first|exact HB.out|apply below_alloc|apply pw_below_drewN|apply below_drew1)|exact HB.out)⟩
   ·replace c10 := Bool.eq_false_iff.mpr c10
    subst c10
    have H1 : ((impl_reduceAny.f kj2 l0 (l1.length : Int)).bind fun t167 => ((slices_Clone_int_int_78.f l0).bind fun t170 => (if t170.length < 5864062014805 then ((impl_reduceAny.f kj2 (t170 ++ [l1]) (l1.length : Int)).bind fun t176 => (some ((t167.length : Int) == (t176.length : Int)))) else (none)))) = some r := by rw [if_neg (show ¬ (false = true) by decide)] at H;exact H
    clear H
    have H := H1
    clear H1
    replace H := Option.bind_eq_some_iff.mp H
    obtain ⟨t167, A110, H⟩ := H
    replace H : ((slices_Clone_int_int_78.f l0).bind fun t170 => (if t170.length < 5864062014805 then ((impl_reduceAny.f kj2 (t170 ++ [l1]) (l1.length : Int)).bind fun t176 => (some ((t167.length : Int) == (t176.length : Int)))) else (none))) = some r := H
    have A11 := Aside0.mk A110
    clear A110
    replace H := Option.bind_eq_some_iff.mp H
    obtain ⟨t170, A120, H⟩ := H
    replace H : (if t170.length < 5864062014805 then ((impl_reduceAny.f kj2 (t170 ++ [l1]) (l1.length : Int)).bind fun t176 => (some ((t167.length : Int) == (t176.length : Int)))) else (none)) = some r := H
    have A12 := Aside0.mk A120
    clear A120
    by_cases c13 : t170.length < 5864062014805
    ·rw [if_pos c13] at H
     have LMc13 := Aside0.mk c13
     clear c13
     obtain ⟨y173, hy173⟩ : ∃ y_ : List (List Int), y_ = (t170 ++ [l1]) := ⟨_, rfl⟩
     replace H : ((impl_reduceAny.f kj2 y173 (l1.length : Int)).bind fun t176 => (some ((t167.length : Int) == (t176.length : Int)))) = some r := by first|(rw [hy173];with_reducible exact H)|(have H2_ := (Option.bind_some _ _).symm.trans H;rw [hy173];with_reducible exact H2_)|(have H2_ := (Option.bind_some _ _).symm.trans H;with_reducible exact H2_)|with_reducible exact H|(rw [hy173];exact H)|exact H
     have Ny173 := Aside0.mk hy173
     clear hy173
     replace H := Option.bind_eq_some_iff.mp H
     obtain ⟨t176, A140, H⟩ := H
     replace H : (some ((t167.length : Int) == (t176.length : Int))) = some r := H
     have A14 := Aside0.mk A140
     clear A140
     obtain rfl := Option.some.inj H
     go_wp2_with (first|((with_reducible refine gate_callee (f := 77) rfl ?_);refine goesL_ (some 21) rfl rfl Try.func77 (by kernel_rfl) rfl #[.slice A0 l0.length c0, .int .i64 (l1.length : Int)] rfl (by (try simp only [List.map_toArray, List.map_cons, List.map_nil]);first|done|rfl|(simp only [List.length_drop, List.length_take];rfl)) ?_;(with_reducible refine (impl_reduceAny.calls kj2 _ _ l0 (l1.length : Int) t167 _ ?side1 ?side2 A11.out).mono ?_);(case side1 => repeat (first|exact (Kd.V_reads' HO_0.out).2.2|(with_reducible refine Kd.C_alloc ?_ _)|(with_reducible refine Kd.C_drewN ?_ _)|(with_reducible refine Kd.C_drew ?_)));(case side2 => exact (Kd.V_reads' HO_0.out).2.1);rintro e w15 ⟨v168, rfl, ho0, hb⟩;refine ⟨_, rfl, ?_⟩;have n0_ := Aside0.mk (Kd.V_elder' (by (with_reducible repeat (first|apply Kd.V_alloc|apply Kd.V_drewN|apply Kd.V_drew));exact HO_0.out) (by first|exact Kd.N_base ho0|exact Kd.S_base ho0) hb);have n1_ := Aside0.mk (Kd.V_elder' (by (with_reducible repeat (first|apply Kd.V_alloc|apply Kd.V_drewN|apply Kd.V_drew));exact HO_1.out) (by first|exact Kd.N_base ho0|exact Kd.S_base ho0) hb);have n2_ := Aside0.mk (Kd.N_lower (Kd.N_mono (ok' := fun k_ => ((P0_ k_ ∨ P1_ k_) ∨ w.heap.size ≤ k_)) (Kd.S_N (Kd.S_bound ho0)) (fun k_ hk_ => (.inr (Nat.le_trans (below_size (by repeat first|(with_reducible first|exact HB.out|apply below_alloc|apply pw_below_drewN|apply below_drew1)|exact HB.out)) hk_.2.1)))) (below_size (by repeat first|(with_reducible first|exact HB.out|apply below_alloc|apply pw_below_drewN|apply below_drew1)|exact HB.out)));have n3_ := Aside0.mk (below_step (by repeat first|(with_reducible first|exact HB.out|apply below_alloc|apply pw_below_drewN|apply below_drew1)|exact HB.out) hb);clear HO_0;clear HO_1;clear HB;have HO_0 := n0_;have HO_1 := n1_;have HO169 := n2_;have HB := n3_;clear n0_ n1_ n2_ n3_;(try clear hb);(try clear hb2);(try clear hk);(try clear hi);(try clear ho0);obtain ⟨Ao16, co16, eo16⟩ := Kd.N_slice HO169.out;subst eo16)|((with_reducible refine gate_callee (f := 78) rfl ?_);refine goesL_ (some 24) rfl rfl Try.func78 (by kernel_rfl) rfl #[.slice A0 l0.length c0] rfl (by (try simp only [List.map_toArray, List.map_cons, List.map_nil]);first|done|rfl|(simp only [List.length_drop, List.length_take];rfl)) ?_;(with_reducible refine (slices_Clone_int_int_78.calls (fun k_ => (((P0_ k_ ∨ P1_ k_) ∨ w.heap.size ≤ k_) ∧ some k_ ≠ (.slice Ao16 t167.length co16 : Value).ownBlock)) _ _ l0 t170 _ ?side1 A12.out).mono ?_);(case side1 => exact HO_0.out);rintro e w17 ⟨v171, rfl, ho0, hb⟩;refine ⟨_, rfl, ?_⟩;have n0_ := Aside0.mk (Kd.V_elder' (by (with_reducible repeat (first|apply Kd.V_alloc|apply Kd.V_drewN|apply Kd.V_drew));exact HO_0.out) (by first|exact Kd.N_base ho0|exact Kd.S_base ho0) hb);have n1_ := Aside0.mk (Kd.V_elder' (by (with_reducible repeat (first|apply Kd.V_alloc|apply Kd.V_drewN|apply Kd.V_drew));exact HO_1.out) (by first|exact Kd.N_base ho0|exact Kd.S_base ho0) hb);have n2_ := Aside0.mk (Kd.N_elder' (by (with_reducible repeat (first|apply Kd.N_alloc|apply Kd.N_drewN|apply Kd.N_drew));exact HO169.out) (by first|exact Kd.N_base ho0|exact Kd.S_base ho0) hb);have n3_ := Aside0.mk (Kd.N_lower (Kd.N_mono (ok' := fun k_ => ((P0_ k_ ∨ P1_ k_) ∨ w.heap.size ≤ k_) ∧ some k_ ≠ (.slice Ao16 t167.length co16 : Value).ownBlock) ho0 (fun k_ hk_ => ⟨Or.elim hk_ (fun hs_ => hs_.1) (fun hn_ => (.inr (Nat.le_trans (below_size (by repeat first|(with_reducible first|exact HB.out|apply below_alloc|apply pw_below_drewN|apply below_drew1)|exact HB.out)) hn_))), Or.elim hk_ (fun hs_ => hs_.2) (fun hn_ => (Kd.fresh' (Kd.N_lt (by (with_reducible repeat (first|apply Kd.N_alloc|apply Kd.N_drewN|apply Kd.N_drew));exact HO169.out)) k_ hn_))⟩)) (below_size (by repeat first|(with_reducible first|exact HB.out|apply below_alloc|apply pw_below_drewN|apply below_drew1)|exact HB.out)));have n4_ := Aside0.mk (below_step (by repeat first|(with_reducible first|exact HB.out|apply below_alloc|apply pw_below_drewN|apply below_drew1)|exact HB.out) hb);clear HO_0;clear HO_1;clear HO169;clear HB;have HO_0 := n0_;have HO_1 := n1_;have HO169 := n2_;have HO172 := n3_;have HB := n4_;clear n0_ n1_ n2_ n3_ n4_;(try clear hb);(try clear hb2);(try clear hk);(try clear hi);(try clear ho0))|((with_reducible refine gate_builtin (b := .append) (xs := #[.tmp 24, .tmp 26]) rfl ?_);(try (refine gate_guard (by rfl) ?_;dsimp only));at_builtin;refine Kd.N_append (Kd.slice 3 (Kd.int .i64)) (w0 := w) w.heap.size rfl (.tmp 24) (.tmp 26) 22 23 (.slice none 0 0) 24 rfl Try.underlying22 info23 rfl (by decide) (by omega) v171 t170 l1 [.slice A1 l1.length c1] (fun k_ => ((P0_ k_ ∨ P1_ k_) ∨ w.heap.size ≤ k_) ∧ some k_ ≠ (.slice Ao16 t167.length co16 : Value).ownBlock) (fun k_ => ((fun k_ => ((P0_ k_ ∨ P1_ k_) ∨ w.heap.size ≤ k_) ∧ some k_ ≠ (.slice Ao16 t167.length co16 : Value).ownBlock)) k_ ∧ some k_ ≠ (v171 : Value).ownBlock) rfl rfl ?aP (fun _ hk => hk) ?aF ?aO ?aB ?aS ?aL ?_;(case aP => exact (Kd.FK_slice_mk (Kd.V_reads' (Kd.V_mono (ok' := (fun k_ => ((fun k_ => ((P0_ k_ ∨ P1_ k_) ∨ w.heap.size ≤ k_) ∧ some k_ ≠ (.slice Ao16 t167.length co16 : Value).ownBlock)) k_ ∧ some k_ ≠ (v171 : Value).ownBlock)) (HO_1.out) (fun k_ hk => ⟨⟨hk.1.1, hk.1.2⟩, hk.2⟩))).2.1 (Kd.V_F (Kd.V_mono (ok' := (fun k_ => ((fun k_ => ((P0_ k_ ∨ P1_ k_) ∨ w.heap.size ≤ k_) ∧ some k_ ≠ (.slice Ao16 t167.length co16 : Value).ownBlock)) k_ ∧ some k_ ≠ (v171 : Value).ownBlock)) (HO_1.out) (fun k_ hk => ⟨⟨hk.1.1, hk.1.2⟩, hk.2⟩)))));(case aB => exact (by repeat first|(with_reducible first|exact HB.out|apply below_alloc|apply pw_below_drewN|apply below_drew1)|exact HB.out));(case aF => exact (fun k_ hk => ⟨(.inr (Nat.le_trans (below_size (by repeat first|(with_reducible first|exact HB.out|apply below_alloc|apply pw_below_drewN|apply below_drew1)|exact HB.out)) hk)), Kd.fresh' (Kd.N_lt (by (with_reducible repeat (first|apply Kd.N_alloc|apply Kd.N_drewN|apply Kd.N_drew));exact HO169.out)) k_ hk⟩));(case aO => exact (by (with_reducible repeat (first|apply Kd.N_alloc|apply Kd.N_drewN|apply Kd.N_drew));exact HO172.out));(case aS => exact (below_size (by repeat first|(with_reducible first|exact HB.out|apply below_alloc|apply pw_below_drewN|apply below_drew1)|exact HB.out)));(case aL => have := LMc13.out;omega);intro v174 w18 ho hb hg hat;rw [← Ny173.out] at ho;have n0_ := Aside0.mk (Kd.V_afterv (ok := (fun k_ => ((P0_ k_ ∨ P1_ k_) ∨ w.heap.size ≤ k_) ∧ some k_ ≠ (.slice Ao16 t167.length co16 : Value).ownBlock)) (by (with_reducible repeat (first|apply Kd.V_alloc|apply Kd.V_drewN|apply Kd.V_drew));exact HO_0.out) hg hat);have n1_ := Aside0.mk (Kd.V_afterv (ok := (fun k_ => ((P0_ k_ ∨ P1_ k_) ∨ w.heap.size ≤ k_) ∧ some k_ ≠ (.slice Ao16 t167.length co16 : Value).ownBlock)) (by (with_reducible repeat (first|apply Kd.V_alloc|apply Kd.V_drewN|apply Kd.V_drew));exact HO_1.out) hg hat);have n2_ := Aside0.mk (Kd.N_afterv (ok := (fun k_ => ((P0_ k_ ∨ P1_ k_) ∨ w.heap.size ≤ k_))) (by (with_reducible repeat (first|apply Kd.N_alloc|apply Kd.N_drewN|apply Kd.N_drew));exact HO169.out) hg hat);have n3_ := Aside0.mk (hb);have n4_ := Aside0.mk (ho);clear HO_0;clear HO_1;clear HO169;clear HB;clear HO172;have HO_0 := n0_;have HO_1 := n1_;have HO169 := n2_;have HB := n3_;have HO175 := n4_;clear n0_ n1_ n2_ n3_ n4_;clear ho hb hg hat;obtain ⟨Ao19, co19, eo19⟩ := Kd.N_slice HO175.out;subst eo19)|((with_reducible refine gate_callee (f := 77) rfl ?_);refine goesL_ (some 29) rfl rfl Try.func77 (by kernel_rfl) rfl #[.slice Ao19 y173.length co19, .int .i64 (l1.length : Int)] rfl (by (try simp only [List.map_toArray, List.map_cons, List.map_nil]);first|done|rfl|(simp only [List.length_drop, List.length_take];rfl)) ?_;(with_reducible refine (impl_reduceAny.calls kj2 _ _ y173 (l1.length : Int) t176 _ ?side1 ?side2 A14.out).mono ?_);(case side1 => repeat (first|exact (Kd.N_reads' HO175.out).2.2|(with_reducible refine Kd.C_alloc ?_ _)|(with_reducible refine Kd.C_drewN ?_ _)|(with_reducible refine Kd.C_drew ?_)));(case side2 => exact (Kd.N_reads' HO175.out).2.1);rintro e w20 ⟨v177, rfl, ho0, hb⟩;refine ⟨_, rfl, ?_⟩;have n0_ := Aside0.mk (Kd.V_elder' (by (with_reducible repeat (first|apply Kd.V_alloc|apply Kd.V_drewN|apply Kd.V_drew));exact HO_0.out) (by first|exact Kd.N_base ho0|exact Kd.S_base ho0) hb);have n1_ := Aside0.mk (Kd.V_elder' (by (with_reducible repeat (first|apply Kd.V_alloc|apply Kd.V_drewN|apply Kd.V_drew));exact HO_1.out) (by first|exact Kd.N_base ho0|exact Kd.S_base ho0) hb);have n2_ := Aside0.mk (Kd.N_elder' (by (with_reducible repeat (first|apply Kd.N_alloc|apply Kd.N_drewN|apply Kd.N_drew));exact HO169.out) (by first|exact Kd.N_base ho0|exact Kd.S_base ho0) hb);have n3_ := Aside0.mk (Kd.N_elder' (by (with_reducible repeat (first|apply Kd.N_alloc|apply Kd.N_drewN|apply Kd.N_drew));exact HO175.out) (by first|exact Kd.N_base ho0|exact Kd.S_base ho0) hb);have n4_ := Aside0.mk (Kd.N_lower (Kd.N_mono (ok' := fun k_ => ((P0_ k_ ∨ P1_ k_) ∨ w.heap.size ≤ k_) ∧ some k_ ≠ (.slice Ao16 t167.length co16 : Value).ownBlock ∧ some k_ ≠ (.slice Ao19 y173.length co19 : Value).ownBlock) (Kd.S_N (Kd.S_bound ho0)) (fun k_ hk_ => ⟨(.inr (Nat.le_trans (below_size (by repeat first|(with_reducible first|exact HB.out|apply below_alloc|apply pw_below_drewN|apply below_drew1)|exact HB.out)) hk_.2.1)), (Kd.fresh' (Kd.N_lt (by (with_reducible repeat (first|apply Kd.N_alloc|apply Kd.N_drewN|apply Kd.N_drew));exact HO169.out)) k_ hk_.2.1), (Kd.fresh' (Kd.N_lt (by (with_reducible repeat (first|apply Kd.N_alloc|apply Kd.N_drewN|apply Kd.N_drew));exact HO175.out)) k_ hk_.2.1)⟩)) (below_size (by repeat first|(with_reducible first|exact HB.out|apply below_alloc|apply pw_below_drewN|apply below_drew1)|exact HB.out)));have n5_ := Aside0.mk (below_step (by repeat first|(with_reducible first|exact HB.out|apply below_alloc|apply pw_below_drewN|apply below_drew1)|exact HB.out) hb);clear HO_0;clear HO_1;clear HO169;clear HO175;clear HB;have HO_0 := n0_;have HO_1 := n1_;have HO169 := n2_;have HO175 := n3_;have HO178 := n4_;have HB := n5_;clear n0_ n1_ n2_ n3_ n4_ n5_;(try clear hb);(try clear hb2);(try clear hk);(try clear hi);(try clear ho0);obtain ⟨Ao21, co21, eo21⟩ := Kd.N_slice HO178.out;subst eo21))
     go_ret
     exact ⟨by first|rfl|(simp [errW_none, errW_some] <;> rfl)|(simp [*, errW_none, errW_some] <;> rfl), by repeat (first|(with_reducible first|exact HB.out|apply below_alloc|apply pw_below_drewN|apply below_drew1)|exact HB.out)⟩
    ·rw [if_neg c13] at H
     exact absurd H (by simp)
def impl_DotOf.l0 : Nat → List Int → List Int → Int → Int → Int → Option (Int)
 | 0, _, _, _, _, _ => none
 | k + 1, x0, x1, x5, x11, x12 => if x12 < x11 then (if 0 ≤ x12 then (if x12 < (x0.length : Int) then (if x12 < (x1.length : Int) then (impl_DotOf.l0 k x0 x1 (wrap64 (x5 + (wrap64 ((rd x0 x12) * (rd x1 x12))))) x11 (wrap64 (x12 + 1))) else (none)) else (none)) else (none)) else (some x5)
def impl_DotOf.f (k : Nat) (l0 : List Int) (l1 : List Int) : Option (Int) := impl_DotOf.l0 k l0 l1 0 (mn (l0.length : Int) (l1.length : Int)) 0
theorem impl_DotOf.mono_l : ∀ k, (∀ y0 y1 y2 y3 y4, LeO (impl_DotOf.l0 k y0 y1 y2 y3 y4) (impl_DotOf.l0 (k + 1) y0 y1 y2 y3 y4))
|0 => fun _ _ _ _ _ r h => by simp [impl_DotOf.l0] at h
|k + 1 => by
  have ih0 := impl_DotOf.mono_l k
  ·intro y0 y1 y2 y3 y4
   unfold impl_DotOf.l0
   repeat' first
  |(with_reducible exact ih0 _ _ _ _ _)
  |(with_reducible exact LeO.refl _)
  |(with_reducible exact LeO.none _)
  |(with_reducible refine LeO.ite ?_ ?_)
  |(with_reducible refine LeO.bind ?_ (fun _ => ?_))
  |exact ih0 _ _ _ _ _
  |exact LeO.none _
  |refine LeO.ite ?_ ?_
  |refine LeO.bind ?_ (fun _ => ?_)
theorem impl_DotOf.mono : ∀ a0 a1 k, LeO (impl_DotOf.f k a0 a1) (impl_DotOf.f (k + 1) a0 a1) := by
 intro a0 a1 k
 have ih0 := impl_DotOf.mono_l k
 unfold impl_DotOf.f
 repeat' first
  |(with_reducible exact ih0 _ _ _ _ _)
  |(with_reducible exact LeO.refl _)
  |(with_reducible exact LeO.none _)
  |(with_reducible refine LeO.ite ?_ ?_)
  |(with_reducible refine LeO.bind ?_ (fun _ => ?_))
  |exact ih0 _ _ _ _ _
  |exact LeO.none _
  |refine LeO.ite ?_ ?_
  |refine LeO.bind ?_ (fun _ => ?_)
set_option maxHeartbeats 8000000 in
set_option maxRecDepth 100000 in
theorem impl_DotOf.calls (k : Nat) (A0 : Option Addr) (c0 : Nat) (l0 : List Int) (A1 : Option Addr) (c1 : Nat) (l1 : List Int) (r : Int) (w : World) (hr0 : Kd.C (Kd.int .i64) w A0 l0.length l0) (hc0 : l0.length ≤ c0) (hr1 : Kd.C (Kd.int .i64) w A1 l1.length l1) (hc1 : l1.length ≤ c1) (h : impl_DotOf.f k l0 l1 = some r) :
  Calls Try.prog 55 #[.slice A0 l0.length c0, .slice A1 l1.length c1] w fun e w' => e = .returned (.int .i64 r) ∧ Below w.heap.size w w' := by
 have HR0 := Aside0.mk hr0
 have HC0 := Aside0.mk hc0
 clear hr0 hc0
 have HR1 := Aside0.mk hr1
 have HC1 := Aside0.mk hc1
 clear hr1 hc1
 have HB := Aside0.mk (Below.refl w.heap.size w)
 have H : (impl_DotOf.l0 k l0 l1 0 (mn (l0.length : Int) (l1.length : Int)) 0) = some r := h
 clear h
 obtain ⟨ji3, hji3⟩ : ∃ j_ : Int, (mn (l0.length : Int) (l1.length : Int)) = j_ := ⟨_, rfl⟩
 replace H : (impl_DotOf.l0 k l0 l1 0 ji3 0) = some r := by first|(rw [hji3] at H;exact H)|(simp only [hji3] at H ⊢;exact H)
 (try (have hji3l : 0 ≤ ji3 := by (rw [← hji3];unfold mn;(repeat' split) <;> omega)))
 (try (have hji3m : 0 ≤ ji3 := by omega))
 have hji3_ : (if (l1.length : Int) < (l0.length : Int) then (l1.length : Int) else (l0.length : Int)) = ji3 := hji3
 have hji3n : (if l1.length < l0.length then (l1.length : Int) else (l0.length : Int)) = ji3 := by rw [← hji3_];by_cases c : l1.length < l0.length <;> simp [c]
 have H' := Aside0.mk H
 clear H
 go_enter Try.func55, Try.ntmps55
 go_wp2
 repeat (go_quiet (fail);try go_wp2)
 go_loopg [5, 12] k (fun kq v5 v12 w' => ∃ (x5_1 : Int) (x12_1 : Int), v5 = .int .i64 x5_1 ∧ v12 = .int .i64 x12_1 ∧ Aside0 (impl_DotOf.l0 kq l0 l1 x5_1 ji3 x12_1 = some r) ∧ Aside0 (kq ≤ k) ∧ Aside0 (Below w.heap.size w w'))
 case atStart => exact ⟨(0), (0), (by first|rfl|(simp;done)|(simp [*];done)), (by first|rfl|(simp;done)|(simp [*];done)), H', ⟨Nat.le_refl _⟩, ⟨by repeat (first|(with_reducible first|exact HB.out|apply below_alloc|apply pw_below_drewN|apply below_drew1)|exact HB.out)⟩⟩
 case round =>
  clear H'
  try clear c1
  try clear p2
  obtain ⟨x5_1, x12_1, rfl, rfl, HA, HK1, HB⟩ := hrel
  cases gk with
 |zero => exact absurd HA.out (by simp [impl_DotOf.l0])
 |succ k1 =>
   have H := HA.out
   clear HA
   simp only [impl_DotOf.l0] at H
   by_cases c4 : x12_1 < ji3
   ·rw [if_pos c4] at H
    have c4b0 : decide (x12_1 < ji3) = true := decide_eq_true c4
    clear c4
    by_cases c5 : 0 ≤ x12_1
    ·rw [if_pos c5] at H
     have c5b0 : decide (0 ≤ x12_1) = true := decide_eq_true c5
     clear c5
     by_cases c6 : x12_1 < (l0.length : Int)
     ·rw [if_pos c6] at H
      have c6b0 : decide (x12_1 < (l0.length : Int)) = true := decide_eq_true c6
      clear c6
      by_cases c7 : x12_1 < (l1.length : Int)
      ·rw [if_pos c7] at H
       have c7b0 : decide (x12_1 < (l1.length : Int)) = true := decide_eq_true c7
       clear c7
       have H' := Aside0.mk H
       clear H
       have p179 : 0 ≤ (x12_1 : Int) := of_decide_eq_true (by first|(with_reducible assumption)|assumption)
       have q179 : x12_1 < (l0.length : Int) := of_decide_eq_true (by first|(with_reducible assumption)|assumption)
       obtain ⟨ad179, e179, hx179_0⟩ := Kd.at_int HR0.out x12_1 p179 q179
       cases e179
       replace hx179_0 := (HB.out.cell (World.block_lt_of_cell? w _ hx179_0)).trans hx179_0
       replace p179 := eq_true p179
       replace q179 := eq_true q179
       have p180 : 0 ≤ (x12_1 : Int) := of_decide_eq_true (by first|(with_reducible assumption)|assumption)
       have q180 : x12_1 < (l1.length : Int) := of_decide_eq_true (by first|(with_reducible assumption)|assumption)
       obtain ⟨ad180, e180, hx180_0⟩ := Kd.at_int HR1.out x12_1 p180 q180
       cases e180
       replace hx180_0 := (HB.out.cell (World.block_lt_of_cell? w _ hx180_0)).trans hx180_0
       replace p180 := eq_true p180
       replace q180 := eq_true q180
       go_wp2
       repeat (go_quiet (fail);try go_wp2)
       go_roundg k1
       case measure => have := HK1.out;omega
       case rel => exact ⟨(wrap64 (x5_1 + (wrap64 ((rd l0 x12_1) * (rd l1 x12_1))))), (wrap64 (x12_1 + 1)), (by first|rfl|(simp;done)|(simp [*];done)), (by first|rfl|(simp;done)|(simp [*];done)), H', ⟨by have := HK1.out;omega⟩, ⟨by repeat (first|(with_reducible first|exact HB.out|apply below_alloc|apply pw_below_drewN|apply below_drew1)|exact HB.out)⟩⟩
      ·rw [if_neg c7] at H
       exact absurd H (by simp)
     ·rw [if_neg c6] at H
      exact absurd H (by simp)
    ·rw [if_neg c5] at H
     exact absurd H (by simp)
   ·rw [if_neg c4] at H
    have c4b0 : decide (x12_1 < ji3) = false := decide_eq_false c4
    clear c4
    obtain rfl := Option.some.inj H
    go_wp2
    repeat (go_quiet (fail);try go_wp2)
    go_ret
    exact ⟨by first|rfl|(simp [errW_none, errW_some] <;> rfl)|(simp only [← hji3];first|rfl|(simp [errW_none, errW_some] <;> rfl))|(simp [*, errW_none, errW_some] <;> rfl), by repeat (first|(with_reducible first|exact HB.out|apply below_alloc|apply pw_below_drewN|apply below_drew1)|exact HB.out)⟩
end Go.Proofs.Ytojkepidkmkmpaa.PFnExactNullVector
end
section
namespace Go.Proofs.Ytojkepidkmkmpaa.PFnExactNullVector
open Go.RowKit Go.Proofs.YtojkepidkmkmpaaW.PrintWords Go.Proofs.YtojkepidkmkmpaaW.PrintLast Go.Proofs.YtojkepidkmkmpaaW.PrintMore
attribute [local go_sem] max2_int min2_int max_two min_two max_three min_three max_four min_four
set_option linter.unusedVariables false
set_option linter.unusedSimpArgs false
mutual
def impl_NullVector.j0 : Nat → List (List Int) → List Int → Int → Bool → Option (List Int)
 | 0, _, _, _, _ => none
 | k + 1, x0, x1, x5, x34 => if x34 = true then (some ([] : List Int)) else ((impl_reduceAny.f k x0 x5).bind fun t187 => (if 0 ≤ x5 then (if (x5 : Int).toNat ≤ 281474976710656 then (impl_NullVector.l0 k x1 x5 t187 1 (List.replicate (x5 : Int).toNat false) t187 (t187.length : Int) 0) else (none)) else (none)))
def impl_NullVector.l0 : Nat → List Int → Int → List (List Int) → Int → List Bool → List (List Int) → Int → Int → Option (List Int)
 | 0, _, _, _, _, _, _, _, _ => none
 | k + 1, x1, x5, x6, x7, x8, x40, x41, x42 => if x42 < x41 then (if 0 ≤ x42 then (if x42 < (x40.length : Int) then ((impl_lead.f k (rd_L1 x40 x42)).bind fun t194 => (if 0 ≤ t194 then (if t194 < (x8.length : Int) then (if t194 < ((rd_L1 x40 x42).length : Int) then ((impl_gcd.f k x7 (rd (rd_L1 x40 x42) t194)).bind fun t197 => (if t197 = 0 then (none) else (impl_NullVector.l0 k x1 x5 x6 (wrap64 ((wrap64 (Int.tdiv x7 t197)) * (rd (rd_L1 x40 x42) t194))) (x8.set (t194 : Int).toNat true) x40 x41 (wrap64 (x42 + 1))))) else (none)) else (none)) else (none))) else (none)) else (none)) else (impl_NullVector.l1 k x1 x5 x6 x7 x8 x5 0)
def impl_NullVector.l1 : Nat → List Int → Int → List (List Int) → Int → List Bool → Int → Int → Option (List Int)
 | 0, _, _, _, _, _, _, _ => none
 | k + 1, x1, x5, x6, x7, x8, x65, x66 => if x66 < x65 then (if 0 ≤ x66 then (if x66 < (x8.length : Int) then (if rdOf false x8 x66 = true then (impl_NullVector.l1 k x1 x5 x6 x7 x8 x65 (wrap64 (x66 + 1))) else (if 0 ≤ x5 then (if (x5 : Int).toNat ≤ 35184372088832 then ((some (List.replicate (x5 : Int).toNat 0 : List Int)).bind fun y200 => (if x66 < (y200.length : Int) then (impl_NullVector.l2 k x1 x5 x6 x7 x8 x66 (y200.set (x66 : Int).toNat x7) x65 x66 x6 (x6.length : Int) 0) else (none))) else (none)) else (none))) else (none)) else (none)) else (some ([] : List Int))
def impl_NullVector.l2 : Nat → List Int → Int → List (List Int) → Int → List Bool → Int → List Int → Int → Int → List (List Int) → Int → Int → Option (List Int)
 | 0, _, _, _, _, _, _, _, _, _, _, _, _ => none
 | k + 1, x1, x5, x6, x7, x8, x12, x13, x65, x66, x79, x80, x81 => if x81 < x80 then (if 0 ≤ x81 then (if x81 < (x79.length : Int) then ((impl_lead.f k (rd_L1 x79 x81)).bind fun t205 => (if 0 ≤ x12 then (if x12 < ((rd_L1 x79 x81).length : Int) then (if 0 ≤ t205 then (if t205 < ((rd_L1 x79 x81).length : Int) then (if (rd (rd_L1 x79 x81) t205) = 0 then (none) else (if t205 < (x13.length : Int) then (impl_NullVector.l2 k x1 x5 x6 x7 x8 x12 (x13.set (t205 : Int).toNat (wrap64 ((wrap64 (-(rd (rd_L1 x79 x81) x12))) * (wrap64 (Int.tdiv x7 (rd (rd_L1 x79 x81) t205)))))) x65 x66 x79 x80 (wrap64 (x81 + 1))) else (none))) else (none)) else (none)) else (none)) else (none))) else (none)) else (none)) else ((impl_DotOf.f k x13 x1).bind fun t209 => (if t209 = 0 then (impl_NullVector.l1 k x1 x5 x6 x7 x8 x65 (wrap64 (x66 + 1))) else (some x13)))
end
def impl_NullVector.f (k : Nat) (l0 : List (List Int)) (l1 : List Int) : Option (List Int) := (impl_IsMatrix.f k l0 (l1.length : Int)).bind fun t181 => (if t181 = true then ((impl_IsMatrix.f k (([l1] : List (List Int))) (l1.length : Int)).bind fun t185 => (if t185 = true then ((impl_IsInSpan.f k l0 l1).bind fun t186 => (impl_NullVector.j0 k l0 l1 (l1.length : Int) t186)) else (impl_NullVector.j0 k l0 l1 (l1.length : Int) true))) else (impl_NullVector.j0 k l0 l1 (l1.length : Int) true))
theorem impl_NullVector.mono_l : ∀ k, (∀ y0 y1 y2 y3, LeO (impl_NullVector.j0 k y0 y1 y2 y3) (impl_NullVector.j0 (k + 1) y0 y1 y2 y3)) ∧ (∀ y0 y1 y2 y3 y4 y5 y6 y7, LeO (impl_NullVector.l0 k y0 y1 y2 y3 y4 y5 y6 y7) (impl_NullVector.l0 (k + 1) y0 y1 y2 y3 y4 y5 y6 y7)) ∧ (∀ y0 y1 y2 y3 y4 y5 y6, LeO (impl_NullVector.l1 k y0 y1 y2 y3 y4 y5 y6) (impl_NullVector.l1 (k + 1) y0 y1 y2 y3 y4 y5 y6)) ∧ (∀ y0 y1 y2 y3 y4 y5 y6 y7 y8 y9 y10 y11, LeO (impl_NullVector.l2 k y0 y1 y2 y3 y4 y5 y6 y7 y8 y9 y10 y11) (impl_NullVector.l2 (k + 1) y0 y1 y2 y3 y4 y5 y6 y7 y8 y9 y10 y11))
|0 => ⟨fun _ _ _ _ r h => by simp [impl_NullVector.j0] at h, fun _ _ _ _ _ _ _ _ r h => by simp [impl_NullVector.l0] at h, fun _ _ _ _ _ _ _ r h => by simp [impl_NullVector.l1] at h, fun _ _ _ _ _ _ _ _ _ _ _ _ r h => by simp [impl_NullVector.l2] at h⟩
|k + 1 => by
  obtain ⟨ih0, ih1, ih2, ih3⟩ := impl_NullVector.mono_l k
  refine ⟨?_, ?_, ?_, ?_⟩
  ·intro y0 y1 y2 y3
   unfold impl_NullVector.j0
   repeat' first
  |(with_reducible exact ih0 _ _ _ _)
  |(with_reducible exact ih1 _ _ _ _ _ _ _ _)
  |(with_reducible exact ih2 _ _ _ _ _ _ _)
  |(with_reducible exact ih3 _ _ _ _ _ _ _ _ _ _ _ _)
  |(with_reducible exact impl_DotOf.mono _ _ _)
  |(with_reducible exact impl_IsInSpan.mono _ _ _)
  |(with_reducible exact impl_IsMatrix.mono _ _ _)
  |(with_reducible exact impl_gcd.mono _ _ _)
  |(with_reducible exact impl_lead.mono _ _)
  |(with_reducible exact impl_reduceAny.mono _ _ _)
  |(with_reducible exact LeO.refl _)
  |(with_reducible exact LeO.none _)
  |(with_reducible refine LeO.ite ?_ ?_)
  |(with_reducible refine LeO.bind ?_ (fun _ => ?_))
  |exact ih0 _ _ _ _
  |exact ih1 _ _ _ _ _ _ _ _
  |exact ih2 _ _ _ _ _ _ _
  |exact ih3 _ _ _ _ _ _ _ _ _ _ _ _
  |exact impl_DotOf.mono _ _ _
  |exact impl_IsInSpan.mono _ _ _
  |exact impl_IsMatrix.mono _ _ _
  |exact impl_gcd.mono _ _ _
  |exact impl_lead.mono _ _
  |exact impl_reduceAny.mono _ _ _
  |exact LeO.none _
  |refine LeO.ite ?_ ?_
  |refine LeO.bind ?_ (fun _ => ?_)
  ·intro y0 y1 y2 y3 y4 y5 y6 y7
   unfold impl_NullVector.l0
   repeat' first
  |(with_reducible exact ih0 _ _ _ _)
  |(with_reducible exact ih1 _ _ _ _ _ _ _ _)
  |(with_reducible exact ih2 _ _ _ _ _ _ _)
  |(with_reducible exact ih3 _ _ _ _ _ _ _ _ _ _ _ _)
  |(with_reducible exact impl_DotOf.mono _ _ _)
  |(with_reducible exact impl_IsInSpan.mono _ _ _)
  |(with_reducible exact impl_IsMatrix.mono _ _ _)
  |(with_reducible exact impl_gcd.mono _ _ _)
  |(with_reducible exact impl_lead.mono _ _)
  |(with_reducible exact impl_reduceAny.mono _ _ _)
  |(with_reducible exact LeO.refl _)
  |(with_reducible exact LeO.none _)
  |(with_reducible refine LeO.ite ?_ ?_)
  |(with_reducible refine LeO.bind ?_ (fun _ => ?_))
  |exact ih0 _ _ _ _
  |exact ih1 _ _ _ _ _ _ _ _
  |exact ih2 _ _ _ _ _ _ _
  |exact ih3 _ _ _ _ _ _ _ _ _ _ _ _
  |exact impl_DotOf.mono _ _ _
  |exact impl_IsInSpan.mono _ _ _
  |exact impl_IsMatrix.mono _ _ _
  |exact impl_gcd.mono _ _ _
  |exact impl_lead.mono _ _
  |exact impl_reduceAny.mono _ _ _
  |exact LeO.none _
  |refine LeO.ite ?_ ?_
  |refine LeO.bind ?_ (fun _ => ?_)
  ·intro y0 y1 y2 y3 y4 y5 y6
   unfold impl_NullVector.l1
   repeat' first
  |(with_reducible exact ih0 _ _ _ _)
  |(with_reducible exact ih1 _ _ _ _ _ _ _ _)
  |(with_reducible exact ih2 _ _ _ _ _ _ _)
  |(with_reducible exact ih3 _ _ _ _ _ _ _ _ _ _ _ _)
  |(with_reducible exact impl_DotOf.mono _ _ _)
  |(with_reducible exact impl_IsInSpan.mono _ _ _)
  |(with_reducible exact impl_IsMatrix.mono _ _ _)
  |(with_reducible exact impl_gcd.mono _ _ _)
  |(with_reducible exact impl_lead.mono _ _)
  |(with_reducible exact impl_reduceAny.mono _ _ _)
  |(with_reducible exact LeO.refl _)
  |(with_reducible exact LeO.none _)
  |(with_reducible refine LeO.ite ?_ ?_)
  |(with_reducible refine LeO.bind ?_ (fun _ => ?_))
  |exact ih0 _ _ _ _
  |exact ih1 _ _ _ _ _ _ _ _
  |exact ih2 _ _ _ _ _ _ _
  |exact ih3 _ _ _ _ _ _ _ _ _ _ _ _
  |exact impl_DotOf.mono _ _ _
  |exact impl_IsInSpan.mono _ _ _
  |exact impl_IsMatrix.mono _ _ _
  |exact impl_gcd.mono _ _ _
  |exact impl_lead.mono _ _
  |exact impl_reduceAny.mono _ _ _
  |exact LeO.none _
  |refine LeO.ite ?_ ?_
  |refine LeO.bind ?_ (fun _ => ?_)
  ·intro y0 y1 y2 y3 y4 y5 y6 y7 y8 y9 y10 y11
   unfold impl_NullVector.l2
   repeat' first
  |(with_reducible exact ih0 _ _ _ _)
  |(with_reducible exact ih1 _ _ _ _ _ _ _ _)
  |(with_reducible exact ih2 _ _ _ _ _ _ _)
  |(with_reducible exact ih3 _ _ _ _ _ _ _ _ _ _ _ _)
  |(with_reducible exact impl_DotOf.mono _ _ _)
  |(with_reducible exact impl_IsInSpan.mono _ _ _)
  |(with_reducible exact impl_IsMatrix.mono _ _ _)
  |(with_reducible exact impl_gcd.mono _ _ _)
  |(with_reducible exact impl_lead.mono _ _)
  |(with_reducible exact impl_reduceAny.mono _ _ _)
  |(with_reducible exact LeO.refl _)
  |(with_reducible exact LeO.none _)
  |(with_reducible refine LeO.ite ?_ ?_)
  |(with_reducible refine LeO.bind ?_ (fun _ => ?_))
  |exact ih0 _ _ _ _
  |exact ih1 _ _ _ _ _ _ _ _
  |exact ih2 _ _ _ _ _ _ _
  |exact ih3 _ _ _ _ _ _ _ _ _ _ _ _
  |exact impl_DotOf.mono _ _ _
  |exact impl_IsInSpan.mono _ _ _
  |exact impl_IsMatrix.mono _ _ _
  |exact impl_gcd.mono _ _ _
  |exact impl_lead.mono _ _
  |exact impl_reduceAny.mono _ _ _
  |exact LeO.none _
  |refine LeO.ite ?_ ?_
  |refine LeO.bind ?_ (fun _ => ?_)
theorem impl_NullVector.mono : ∀ a0 a1 k, LeO (impl_NullVector.f k a0 a1) (impl_NullVector.f (k + 1) a0 a1) := by
 intro a0 a1 k
 obtain ⟨ih0, ih1, ih2, ih3⟩ := impl_NullVector.mono_l k
 unfold impl_NullVector.f
 repeat' first
  |(with_reducible exact ih0 _ _ _ _)
  |(with_reducible exact ih1 _ _ _ _ _ _ _ _)
  |(with_reducible exact ih2 _ _ _ _ _ _ _)
  |(with_reducible exact ih3 _ _ _ _ _ _ _ _ _ _ _ _)
  |(with_reducible exact impl_DotOf.mono _ _ _)
  |(with_reducible exact impl_IsInSpan.mono _ _ _)
  |(with_reducible exact impl_IsMatrix.mono _ _ _)
  |(with_reducible exact impl_gcd.mono _ _ _)
  |(with_reducible exact impl_lead.mono _ _)
  |(with_reducible exact impl_reduceAny.mono _ _ _)
  |(with_reducible exact LeO.refl _)
  |(with_reducible exact LeO.none _)
  |(with_reducible refine LeO.ite ?_ ?_)
  |(with_reducible refine LeO.bind ?_ (fun _ => ?_))
  |exact ih0 _ _ _ _
  |exact ih1 _ _ _ _ _ _ _ _
  |exact ih2 _ _ _ _ _ _ _
  |exact ih3 _ _ _ _ _ _ _ _ _ _ _ _
  |exact impl_DotOf.mono _ _ _
  |exact impl_IsInSpan.mono _ _ _
  |exact impl_IsMatrix.mono _ _ _
  |exact impl_gcd.mono _ _ _
  |exact impl_lead.mono _ _
  |exact impl_reduceAny.mono _ _ _
  |exact LeO.none _
  |refine LeO.ite ?_ ?_
  |refine LeO.bind ?_ (fun _ => ?_)
def impl_NullVector.T12 : Bool × List (List Nat × List Nat) := (true, [([], []), ([], []), ([], []), ([], []), ([2, 3], [2, 3]), ([4], [4]), ([1, 5], [1, 5]), ([0, 6], [0, 6]), ([], []), ([], []), ([8, 9], [8, 9]), ([10], [10]), ([7, 11], [7, 11]), ([12, 6, 0, 1, 2, 3, 4, 5, 6, 7, 8, 9, 10, 11, 12], [0, 1, 12])])
def impl_NullVector.B12 : List Nat := [0, 0, 0, 0, 12, 28, 62, 127, 0, 0, 768, 1792, 4095, 8191]
theorem impl_NullVector.tab12 : rtab .any (opsOf Try.f42 12) = impl_NullVector.T12 := by kernel_rfl
theorem impl_NullVector.bits12 : waitsOk impl_NullVector.T12.2 impl_NullVector.B12 = true := by kernel_rfl
def impl_NullVector.T24 : Bool × List (List Nat × List Nat) := (true, [([], []), ([], []), ([], []), ([], []), ([2, 3], [2, 3]), ([4], [4]), ([5], [5]), ([], []), ([], []), ([], []), ([8, 9], [8, 9]), ([10], [10]), ([7, 11], [7, 11]), ([6, 12], [6, 12]), ([0, 1, 0, 1, 2, 3, 4, 5, 6, 7, 8, 9, 10, 11, 12, 13], [0, 1]), ([14, 13, 0, 1, 2, 3, 4, 5, 6, 7, 8, 9, 10, 11, 12, 13], [13, 14])])
def impl_NullVector.B24 : List Nat := [0, 0, 0, 0, 12, 28, 60, 0, 0, 0, 768, 1792, 3968, 8188, 16383, 32767]
theorem impl_NullVector.tab24 : rtab .any (opsOf Try.f42 24) = impl_NullVector.T24 := by kernel_rfl
theorem impl_NullVector.bits24 : waitsOk impl_NullVector.T24.2 impl_NullVector.B24 = true := by kernel_rfl
set_option maxHeartbeats 8000000 in
set_option maxRecDepth 100000 in
theorem impl_NullVector.calls (k : Nat) (A0 : Option Addr) (c0 : Nat) (l0 : List (List Int)) (P1_ : Nat → Prop) (A1 : Option Addr) (c1 : Nat) (l1 : List Int) (r : List Int) (w : World) (hr0 : Kd.C (Kd.slice 3 (Kd.int .i64)) w A0 l0.length l0) (hc0 : l0.length ≤ c0) (hs1 : Kd.V (Kd.int .i64) 3 w w.heap.size (fun k_ => P1_ k_) (.slice A1 l1.length c1) l1) (h : impl_NullVector.f k l0 l1 = some r) :
  Calls Try.prog 42 #[.slice A0 l0.length c0, .slice A1 l1.length c1] w fun e w' => ∃ v0_ : Value, e = .returned (v0_) ∧ Kd.R (Kd.int .i64) 3 w' w.heap.size (fun k_ => (w.heap.size ≤ k_)) v0_ r ∧ Below w.heap.size w w' := by
 have HR0 := Aside0.mk hr0
 have HC0 := Aside0.mk hc0
 clear hr0 hc0
 have HO1 := Aside0.mk (show Kd.V (Kd.int .i64) 3 w w.heap.size (fun k_ => (P1_ k_ ∨ w.heap.size ≤ k_)) (.slice A1 l1.length c1) l1 from Kd.V_mono hs1 (fun k_ hk => .inl hk))
 have HB := Aside0.mk (Below.refl w.heap.size w)
 have H : ((impl_IsMatrix.f k l0 (l1.length : Int)).bind fun t181 => (if t181 = true then ((impl_IsMatrix.f k (([l1] : List (List Int))) (l1.length : Int)).bind fun t185 => (if t185 = true then ((impl_IsInSpan.f k l0 l1).bind fun t186 => (impl_NullVector.j0 k l0 l1 (l1.length : Int) t186)) else (impl_NullVector.j0 k l0 l1 (l1.length : Int) true))) else (impl_NullVector.j0 k l0 l1 (l1.length : Int) true))) = some r := h
 clear h
 have HC3 := Aside0.mk H
 clear H
 go_enter Try.func42, Try.ntmps42
 go_upto_region 2 with (fail)
 go_cut [34] (fun v34 wc => ∃ (kq : Nat) (x34_2 : Bool), v34 = .bool x34_2 ∧ Aside0 (impl_NullVector.j0 kq l0 l1 (l1.length : Int) x34_2 = some r) ∧ Aside0 (kq ≤ k) ∧ Aside0 (Kd.V (Kd.int .i64) 3 wc w.heap.size (fun k_ => (P1_ k_ ∨ w.heap.size ≤ k_)) (.slice A1 l1.length c1) l1) ∧ Aside0 (Below w.heap.size w wc))
 case first =>
  have H := HC3.out
  clear HC3
  replace H := Option.bind_eq_some_iff.mp H
  obtain ⟨t181, A40, H⟩ := H
  replace H : (if t181 = true then ((impl_IsMatrix.f k (([l1] : List (List Int))) (l1.length : Int)).bind fun t185 => (if t185 = true then ((impl_IsInSpan.f k l0 l1).bind fun t186 => (impl_NullVector.j0 k l0 l1 (l1.length : Int) t186)) else (impl_NullVector.j0 k l0 l1 (l1.length : Int) true))) else (impl_NullVector.j0 k l0 l1 (l1.length : Int) true)) = some r := H
  have A4 := Aside0.mk A40
  clear A40
  by_cases c5 : t181 = true
  ·subst c5
   have H1 : ((impl_IsMatrix.f k (([l1] : List (List Int))) (l1.length : Int)).bind fun t185 => (if t185 = true then ((impl_IsInSpan.f k l0 l1).bind fun t186 => (impl_NullVector.j0 k l0 l1 (l1.length : Int) t186)) else (impl_NullVector.j0 k l0 l1 (l1.length : Int) true))) = some r := by rw [if_pos rfl] at H;exact H
   clear H
   have H := H1
   clear H1
   obtain ⟨y182, hy182⟩ : ∃ y_ : List (List Int), y_ = (([l1] : List (List Int))) := ⟨_, rfl⟩
   replace H : ((impl_IsMatrix.f k y182 (l1.length : Int)).bind fun t185 => (if t185 = true then ((impl_IsInSpan.f k l0 l1).bind fun t186 => (impl_NullVector.j0 k l0 l1 (l1.length : Int) t186)) else (impl_NullVector.j0 k l0 l1 (l1.length : Int) true))) = some r := by first|(rw [hy182];with_reducible exact H)|(have H2_ := (Option.bind_some _ _).symm.trans H;rw [hy182];with_reducible exact H2_)|(have H2_ := (Option.bind_some _ _).symm.trans H;with_reducible exact H2_)|with_reducible exact H|(rw [hy182];exact H)|exact H
   have Ny182 := Aside0.mk hy182
   clear hy182
   replace H := Option.bind_eq_some_iff.mp H
   obtain ⟨t185, A60, H⟩ := H
   replace H : (if t185 = true then ((impl_IsInSpan.f k l0 l1).bind fun t186 => (impl_NullVector.j0 k l0 l1 (l1.length : Int) t186)) else (impl_NullVector.j0 k l0 l1 (l1.length : Int) true)) = some r := H
   have A6 := Aside0.mk A60
   clear A60
   by_cases c7 : t185 = true
   ·subst c7
    have H1 : ((impl_IsInSpan.f k l0 l1).bind fun t186 => (impl_NullVector.j0 k l0 l1 (l1.length : Int) t186)) = some r := by rw [if_pos rfl] at H;exact H
    clear H
    have H := H1
    clear H1
    replace H := Option.bind_eq_some_iff.mp H
    obtain ⟨t186, A80, H⟩ := H
    replace H : (impl_NullVector.j0 k l0 l1 (l1.length : Int) t186) = some r := H
    have A8 := Aside0.mk A80
    clear A80
    have H' := Aside0.mk H
    clear H
    go_wp2_with ((with_reducible refine gate_callee (f := 40) rfl ?_);refine goesL_ (some 21) rfl rfl Try.func40 (by kernel_rfl) rfl #[.slice A0 l0.length c0, .int .i64 (l1.length : Int)] rfl (by (try simp only [List.map_toArray, List.map_cons, List.map_nil]);first|done|rfl|(simp only [List.length_drop, List.length_take];rfl)) ?_;(with_reducible refine (impl_IsMatrix.calls k _ _ l0 (l1.length : Int) true _ ?side1 ?side2 A4.out).mono ?_);(case side1 => repeat (first|exact (Kd.C_below HR0.out HB.out)|(with_reducible refine Kd.C_alloc ?_ _)|(with_reducible refine Kd.C_drewN ?_ _)|(with_reducible refine Kd.C_drew ?_)));(case side2 => exact HC0.out);rintro e w' ⟨rfl, ⟨nd, rfl⟩⟩;refine ⟨_, rfl, ?_⟩)
    have A6b := Aside0.mk (show impl_IsMatrix.f k ([l1] : List (List Int)) (l1.length : Int) = some true by rw [← Ny182.out];exact A6.out)
    refine (impl_IsMatrix.calls k _ _ ([l1] : List (List Int)) (l1.length : Int) true _ ?sideA ?sideB A6b.out).mono ?_
    case sideA => exact YtojkepidkmkmpaaRed.one_C (Kd.C_alloc (Kd.C_drewN (Kd.V_reads' HO1.out).2.2 _) _) (Kd.V_reads' HO1.out).2.1 (YtojkepidkmkmpaaRed.cell_new _ _ _)
    case sideB => exact Nat.le_refl _
    rintro e w' ⟨rfl, ⟨nd2_, rfl⟩⟩
    go_wp2_with fail
    refine (impl_IsInSpan.calls k (fun k_ => k_ < w.heap.size) _ _ l0 (fun k_ => (P1_ k_ ∨ w.heap.size ≤ k_)) _ _ l1 t186 _ ?sideC ?sideD A8.out).mono ?_
    case sideC => exact Kd.V_mk HC0.out (Kd.F_below (Kd.C_F (Kd.heap_slice 3 (Kd.heap_int .i64)) HR0.out) (by repeat first|(with_reducible first|exact HB.out|apply below_alloc|apply pw_below_drewN|apply below_drew1)|exact HB.out))
    case sideD => exact Kd.V_drewN (Kd.V_alloc (Kd.V_drewN HO1.out _) _) _
    rintro e w12 ⟨rfl, hb⟩
    have n0_ := Aside0.mk (Kd.V_below (Kd.V_drewN (Kd.V_alloc (Kd.V_drewN HO1.out _) _) _) hb)
    have n2_ := Aside0.mk (below_step (by repeat first|(with_reducible first|exact HB.out|apply below_alloc|apply pw_below_drewN|apply below_drew1)|exact HB.out) hb)
    clear HO1;clear HB;have HO1 := n0_;have HB := n2_;clear n0_ n2_ hb
    go_wp2
    go_meet
    case rel => exact ⟨_, (t186), (by first|rfl|(simp;done)|(simp [*];done)), H', ⟨by first|omega|exact Nat.le_refl _⟩, ⟨by (with_reducible repeat (first|apply Kd.V_alloc|apply Kd.V_drewN|apply Kd.V_drew));(first|exact HO1.out|exact Kd.V_mono HO1.out (fun _ hk => hk.1))⟩, ⟨by repeat (first|(with_reducible first|exact HB.out|apply below_alloc|apply pw_below_drewN|apply below_drew1)|exact HB.out)⟩⟩
   ·replace c7 := Bool.eq_false_iff.mpr c7
    subst c7
    have H1 : (impl_NullVector.j0 k l0 l1 (l1.length : Int) true) = some r := by rw [if_neg (show ¬ (false = true) by decide)] at H;exact H
    clear H
    have H := H1
    clear H1
    have H' := Aside0.mk H
    clear H
    go_wp2_with ((with_reducible refine gate_callee (f := 40) rfl ?_);refine goesL_ (some 21) rfl rfl Try.func40 (by kernel_rfl) rfl #[.slice A0 l0.length c0, .int .i64 (l1.length : Int)] rfl (by (try simp only [List.map_toArray, List.map_cons, List.map_nil]);first|done|rfl|(simp only [List.length_drop, List.length_take];rfl)) ?_;(with_reducible refine (impl_IsMatrix.calls k _ _ l0 (l1.length : Int) true _ ?side1 ?side2 A4.out).mono ?_);(case side1 => repeat (first|exact (Kd.C_below HR0.out HB.out)|(with_reducible refine Kd.C_alloc ?_ _)|(with_reducible refine Kd.C_drewN ?_ _)|(with_reducible refine Kd.C_drew ?_)));(case side2 => exact HC0.out);rintro e w' ⟨rfl, ⟨nd, rfl⟩⟩;refine ⟨_, rfl, ?_⟩)
    have A6b := Aside0.mk (show impl_IsMatrix.f k ([l1] : List (List Int)) (l1.length : Int) = some false by rw [← Ny182.out];exact A6.out)
    refine (impl_IsMatrix.calls k _ _ ([l1] : List (List Int)) (l1.length : Int) false _ ?sideA ?sideB A6b.out).mono ?_
    case sideA => exact YtojkepidkmkmpaaRed.one_C (Kd.C_alloc (Kd.C_drewN (Kd.V_reads' HO1.out).2.2 _) _) (Kd.V_reads' HO1.out).2.1 (YtojkepidkmkmpaaRed.cell_new _ _ _)
    case sideB => exact Nat.le_refl _
    rintro e w' ⟨rfl, ⟨nd2_, rfl⟩⟩
    go_wp2
    go_meet
    case rel => exact ⟨_, (true), (by first|rfl|(simp;done)|(simp [*];done)), H', ⟨by first|omega|exact Nat.le_refl _⟩, ⟨by (with_reducible repeat (first|apply Kd.V_alloc|apply Kd.V_drewN|apply Kd.V_drew));(first|exact HO1.out|exact Kd.V_mono HO1.out (fun _ hk => hk.1))⟩, ⟨by repeat (first|(with_reducible first|exact HB.out|apply below_alloc|apply pw_below_drewN|apply below_drew1)|exact HB.out)⟩⟩
  ·replace c5 := Bool.eq_false_iff.mpr c5
   subst c5
   have H1 : (impl_NullVector.j0 k l0 l1 (l1.length : Int) true) = some r := by rw [if_neg (show ¬ (false = true) by decide)] at H;exact H
   clear H
   have H := H1
   clear H1
   have H' := Aside0.mk H
   clear H
   go_wp2_with (first|((with_reducible refine gate_callee (f := 40) rfl ?_);refine goesL_ (some 21) rfl rfl Try.func40 (by kernel_rfl) rfl #[.slice A0 l0.length c0, .int .i64 (l1.length : Int)] rfl (by (try simp only [List.map_toArray, List.map_cons, List.map_nil]);first|done|rfl|(simp only [List.length_drop, List.length_take];rfl)) ?_;(with_reducible refine (impl_IsMatrix.calls k _ _ l0 (l1.length : Int) false _ ?side1 ?side2 A4.out).mono ?_);(case side1 => repeat (first|exact (Kd.C_below HR0.out HB.out)|(with_reducible refine Kd.C_alloc ?_ _)|(with_reducible refine Kd.C_drewN ?_ _)|(with_reducible refine Kd.C_drew ?_)));(case side2 => exact HC0.out);rintro e w' ⟨rfl, ⟨nd, rfl⟩⟩;refine ⟨_, rfl, ?_⟩))
   go_meet
   case rel => exact ⟨_, (true), (by first|rfl|(simp;done)|(simp [*];done)), H', ⟨by first|omega|exact Nat.le_refl _⟩, ⟨by (with_reducible repeat (first|apply Kd.V_alloc|apply Kd.V_drewN|apply Kd.V_drew));exact HO1.out⟩, ⟨by repeat (first|(with_reducible first|exact HB.out|apply below_alloc|apply pw_below_drewN|apply below_drew1)|exact HB.out)⟩⟩
 case rest =>
  clear HC3
  try clear c1
  try clear p2
  try clear c4
  try clear c5
  try clear c7
  obtain ⟨kq, x34_2, rfl, HA, HJ2, HO_1, HB⟩ := hcut
  cases kq with
 |zero => exact absurd HA.out (by simp [impl_NullVector.j0])
 |succ kj2 =>
   have H := HA.out
   clear HA
   simp only [impl_NullVector.j0] at H
   by_cases c16 : x34_2 = true
   ·subst c16
    have H1 : (some ([] : List Int)) = some r := by rw [if_pos rfl] at H;exact H
    clear H
    have H := H1
    clear H1
    obtain rfl := Option.some.inj H
    go_wp2
    go_ret
    exact ⟨_, by first|rfl|(simp [errW_none, errW_some] <;> rfl)|(simp [*, errW_none, errW_some] <;> rfl), by first|exact Kd.R_nil _ _ _ _ _|exact Kd.N_nil _ _ _ _ _|exact Kd.V_nil _ _ _ _ _|exact Kd.Q_nil _ _ _ _ _|exact Kd.S_nil _ _ _ _ _, by repeat (first|(with_reducible first|exact HB.out|apply below_alloc|apply pw_below_drewN|apply below_drew1)|exact HB.out)⟩
   ·replace c16 := Bool.eq_false_iff.mpr c16
    subst c16
    have H1 : ((impl_reduceAny.f kj2 l0 (l1.length : Int)).bind fun t187 => (if 0 ≤ (l1.length : Int) then (if ((l1.length : Int) : Int).toNat ≤ 281474976710656 then (impl_NullVector.l0 kj2 l1 (l1.length : Int) t187 1 (List.replicate ((l1.length : Int) : Int).toNat false) t187 (t187.length : Int) 0) else (none)) else (none))) = some r := by rw [if_neg (show ¬ (false = true) by decide)] at H;exact H
    clear H
    have H := H1
    clear H1
    replace H := Option.bind_eq_some_iff.mp H
    obtain ⟨t187, A170, H⟩ := H
    replace H : (if 0 ≤ (l1.length : Int) then (if ((l1.length : Int) : Int).toNat ≤ 281474976710656 then (impl_NullVector.l0 kj2 l1 (l1.length : Int) t187 1 (List.replicate ((l1.length : Int) : Int).toNat false) t187 (t187.length : Int) 0) else (none)) else (none)) = some r := H
    have A17 := Aside0.mk A170
    clear A170
    by_cases c18 : 0 ≤ (l1.length : Int)
    ·rw [if_pos c18] at H
     have c18b0 := eq_true c18
     have c18b1 : decide (0 ≤ (l1.length : Int)) = true := decide_eq_true c18
     clear c18
     by_cases c19 : ((l1.length : Int) : Int).toNat ≤ 281474976710656
     ·rw [if_pos c19] at H
      have c19b0 := eq_true c19
      have c19b1 : decide (((l1.length : Int) : Int).toNat ≤ 281474976710656) = true := decide_eq_true c19
      clear c19
      obtain ⟨y190, hy190⟩ : ∃ y_ : List Bool, y_ = (List.replicate ((l1.length : Int) : Int).toNat false) := ⟨_, rfl⟩
      replace H : (impl_NullVector.l0 kj2 l1 (l1.length : Int) t187 1 y190 t187 (t187.length : Int) 0) = some r := by first|(rw [hy190];with_reducible exact H)|(have H2_ := (Option.bind_some _ _).symm.trans H;rw [hy190];with_reducible exact H2_)|(have H2_ := (Option.bind_some _ _).symm.trans H;with_reducible exact H2_)|with_reducible exact H|(rw [hy190];exact H)|exact H
      have Ny190 := Aside0.mk hy190
      clear hy190
      have H' := Aside0.mk H
      clear H
      go_wp2_with (first|((with_reducible refine gate_callee (f := 77) rfl ?_);refine goesL_ (some 37) rfl rfl Try.func77 (by kernel_rfl) rfl #[.slice A0 l0.length c0, .int .i64 (l1.length : Int)] rfl (by (try simp only [List.map_toArray, List.map_cons, List.map_nil]);first|done|rfl|(simp only [List.length_drop, List.length_take];rfl)) ?_;(with_reducible refine (impl_reduceAny.calls kj2 _ _ l0 (l1.length : Int) t187 _ ?side1 ?side2 A17.out).mono ?_);(case side1 => repeat (first|exact (Kd.C_below HR0.out HB.out)|(with_reducible refine Kd.C_alloc ?_ _)|(with_reducible refine Kd.C_drewN ?_ _)|(with_reducible refine Kd.C_drew ?_)));(case side2 => exact HC0.out);rintro e w20 ⟨v188, rfl, ho0, hb⟩;refine ⟨_, rfl, ?_⟩;have n0_ := Aside0.mk (Kd.V_elder' (by (with_reducible repeat (first|apply Kd.V_alloc|apply Kd.V_drewN|apply Kd.V_drew));exact HO_1.out) (by first|exact Kd.N_base ho0|exact Kd.S_base ho0) hb);have n1_ := Aside0.mk (Kd.N_lower (Kd.N_mono (ok' := fun k_ => (P1_ k_ ∨ w.heap.size ≤ k_)) (Kd.S_N (Kd.S_bound ho0)) (fun k_ hk_ => (.inr (Nat.le_trans (below_size (by repeat first|(with_reducible first|exact HB.out|apply below_alloc|apply pw_below_drewN|apply below_drew1)|exact HB.out)) hk_.2.1)))) (below_size (by repeat first|(with_reducible first|exact HB.out|apply below_alloc|apply pw_below_drewN|apply below_drew1)|exact HB.out)));have n2_ := Aside0.mk (below_step (by repeat first|(with_reducible first|exact HB.out|apply below_alloc|apply pw_below_drewN|apply below_drew1)|exact HB.out) hb);clear HO_1;clear HB;have HO_1 := n0_;have HO189 := n1_;have HB := n2_;clear n0_ n1_ n2_;(try clear hb);(try clear hb2);(try clear hk);(try clear hi);(try clear ho0))|((with_reducible refine gate_dst (N := 39) rfl ?_);(try (refine gate_guard (by rfl) ?_;dsimp only));refine Kd.R_make Kd.bool _ 4 rfl (N := 39) rfl 81 _ _ rfl (l1.length : Int) rfl rfl Try.underlying81 (.bool false) 1 info4 rfl (by decide) (by omega) false (ok := fun _ => True) (okp := fun _ => True) rfl (fun _ hk => hk) trivial (of_decide_eq_true (by first|(with_reducible assumption)|assumption)) (Nat.le_trans (Nat.mul_le_mul_right _ (of_decide_eq_true (by first|(with_reducible assumption)|assumption) : (l1.length : Int).toNat ≤ 281474976710656)) (by omega)) (Below.refl _ _) (Nat.le_refl _) ?_;intro v191 w21 ho22 hb hg_ hnew_;clear hg_ hnew_;(first|rw [← Ny190.out] at ho22|(simp only [Int.reduceToNat] at ho22;rw [← Ny190.out] at ho22));have n0_ := Aside0.mk (Kd.V_elder' (by (with_reducible repeat (first|apply Kd.V_alloc|apply Kd.V_drewN|apply Kd.V_drew));exact HO_1.out) (Kd.R_base ho22) hb);have n1_ := Aside0.mk (Kd.N_elder' (by (with_reducible repeat (first|apply Kd.N_alloc|apply Kd.N_drewN|apply Kd.N_drew));exact HO189.out) (Kd.R_base ho22) hb);have n2_ := Aside0.mk (Kd.R_lower (Kd.R_newM (M := fun k_ => (w.heap.size ≤ k_)) ho22 (below_size (by repeat first|(with_reducible first|exact HB.out|apply below_alloc|apply pw_below_drewN|apply below_drew1)|exact HB.out)) (fun k_ h_ => h_)) (below_size (by repeat first|(with_reducible first|exact HB.out|apply below_alloc|apply pw_below_drewN|apply below_drew1)|exact HB.out)));have n3_ := Aside0.mk (below_step (by repeat first|(with_reducible first|exact HB.out|apply below_alloc|apply pw_below_drewN|apply below_drew1)|exact HB.out) hb);clear HO_1;clear HO189;clear HB;have HO_1 := n0_;have HO189 := n1_;have HO192 := n2_;have HB := n3_;clear n0_ n1_ n2_ n3_;clear hb ho22;obtain ⟨Ao23, co23, eo23⟩ := Kd.N_slice HO189.out;subst eo23))
      go_loopg [7, 42] kj2 (fun kq v7 v42 w' => ∃ (x7_2 : Int) (x8_2 : List Bool) (x42_2 : Int), v7 = .int .i64 x7_2 ∧ v42 = .int .i64 x42_2 ∧ Aside0 (impl_NullVector.l0 kq l1 (l1.length : Int) t187 x7_2 x8_2 t187 (t187.length : Int) x42_2 = some r) ∧ Aside0 (kq ≤ kj2) ∧ Aside0 (Kd.V (Kd.int .i64) 3 w' w.heap.size (fun k_ => (P1_ k_ ∨ w.heap.size ≤ k_) ∧ some k_ ≠ ((.slice Ao23 t187.length co23) : Value).ownBlock ∧ some k_ ≠ (v191 : Value).ownBlock ∧ some k_ ≠ ((.slice Ao23 t187.length co23) : Value).ownBlock) (.slice A1 l1.length c1) l1) ∧ Aside0 (Kd.N (Kd.slice 3 (Kd.int .i64)) 23 w' w.heap.size (fun k_ => (P1_ k_ ∨ w.heap.size ≤ k_) ∧ some k_ ≠ (v191 : Value).ownBlock) (.slice Ao23 t187.length co23) t187) ∧ Aside0 (Kd.R Kd.bool 4 w' w.heap.size (fun k_ => (w.heap.size ≤ k_)) v191 x8_2) ∧ Aside0 (Kd.N (Kd.slice 3 (Kd.int .i64)) 23 w' w.heap.size (fun k_ => (P1_ k_ ∨ w.heap.size ≤ k_) ∧ some k_ ≠ (v191 : Value).ownBlock) (.slice Ao23 t187.length co23) t187) ∧ Aside0 (Below w.heap.size w w'))
      case atStart => exact ⟨(1), (y190), (0), (by first|rfl|(simp;done)|(simp [*];done)), (by first|rfl|(simp;done)|(simp [*];done)), H', ⟨Nat.le_refl _⟩, ⟨by (with_reducible repeat (first|apply Kd.V_alloc|apply Kd.V_drewN|apply Kd.V_drew));exact Kd.V_mono HO_1.out (fun _ hk => by first|exact ⟨hk.1.1, ⟨hk.1.2, ⟨hk.2, hk.1.2⟩⟩⟩|((repeat' apply And.intro) <;> first|exact hk.1|exact hk.2|exact hk.1.1|exact hk.1.2|exact hk.2.1|exact hk.2.2|exact hk.1.1.1|exact hk.1.1.2|exact hk.1.2.1|exact hk.1.2.2|exact hk.2.1.1|exact hk.2.1.2|exact hk.2.2.1|exact hk.2.2.2|exact hk.2.2.2.1|exact hk.2.2.2.2|exact hk.1.2.2.1|exact hk.1.2.2.2|exact hk.1.2.2.2.1|exact hk.1.2.2.2.2))⟩, ⟨by (with_reducible repeat (first|apply Kd.N_alloc|apply Kd.N_drewN|apply Kd.N_drew));exact HO189.out⟩, ⟨by (with_reducible repeat (first|apply Kd.R_alloc|apply Kd.R_drewN|apply Kd.R_drew));exact Kd.R_mono HO192.out (fun _ hk => hk.1)⟩, ⟨by (with_reducible repeat (first|apply Kd.N_alloc|apply Kd.N_drewN|apply Kd.N_drew));exact HO189.out⟩, ⟨by repeat (first|(with_reducible first|exact HB.out|apply below_alloc|apply pw_below_drewN|apply below_drew1)|exact HB.out)⟩⟩
      case round =>
       clear H'
       try clear c1
       try clear p2
       try clear c4
       try clear c5
       try clear c7
       try clear c16
       try clear c18
       try clear c18b0
       try clear c18b1
       try clear c19
       try clear c19b0
       try clear c19b1
       try clear p2
       obtain ⟨x7_2, x8_2, x42_2, rfl, rfl, HA, HK2, HO_1, HO_6, HO_8, HO_40, HB⟩ := hrel
       cases gk with
      |zero => exact absurd HA.out (by simp [impl_NullVector.l0])
      |succ k2 =>
        have H := HA.out
        clear HA
        simp only [impl_NullVector.l0] at H
        by_cases c24 : x42_2 < (t187.length : Int)
        ·rw [if_pos c24] at H
         have c24b0 : decide (x42_2 < (t187.length : Int)) = true := decide_eq_true c24
         clear c24
         by_cases c25 : 0 ≤ x42_2
         ·rw [if_pos c25] at H
          have c25b0 : decide (0 ≤ x42_2) = true := decide_eq_true c25
          clear c25
          by_cases c26 : x42_2 < (t187.length : Int)
          ·rw [if_pos c26] at H
           have c26b0 : decide (x42_2 < (t187.length : Int)) = true := decide_eq_true c26
           clear c26
           replace H := Option.bind_eq_some_iff.mp H
           obtain ⟨t194, A270, H⟩ := H
           replace H : (if 0 ≤ t194 then (if t194 < (x8_2.length : Int) then (if t194 < ((rd_L1 t187 x42_2).length : Int) then ((impl_gcd.f k2 x7_2 (rd (rd_L1 t187 x42_2) t194)).bind fun t197 => (if t197 = 0 then (none) else (impl_NullVector.l0 k2 l1 (l1.length : Int) t187 (wrap64 ((wrap64 (Int.tdiv x7_2 t197)) * (rd (rd_L1 t187 x42_2) t194))) (x8_2.set (t194 : Int).toNat true) t187 (t187.length : Int) (wrap64 (x42_2 + 1))))) else (none)) else (none)) else (none)) = some r := H
           have A27 := Aside0.mk A270
           clear A270
           by_cases c28 : 0 ≤ t194
           ·rw [if_pos c28] at H
            have c28b0 : decide (0 ≤ t194) = true := decide_eq_true c28
            clear c28
            by_cases c29 : t194 < (x8_2.length : Int)
            ·rw [if_pos c29] at H
             have c29b0 : decide (t194 < (x8_2.length : Int)) = true := decide_eq_true c29
             clear c29
             obtain ⟨y195, hy195⟩ : ∃ y_ : List Bool, y_ = (x8_2.set (t194 : Int).toNat true) := ⟨_, rfl⟩
             replace H : (if t194 < ((rd_L1 t187 x42_2).length : Int) then ((impl_gcd.f k2 x7_2 (rd (rd_L1 t187 x42_2) t194)).bind fun t197 => (if t197 = 0 then (none) else (impl_NullVector.l0 k2 l1 (l1.length : Int) t187 (wrap64 ((wrap64 (Int.tdiv x7_2 t197)) * (rd (rd_L1 t187 x42_2) t194))) y195 t187 (t187.length : Int) (wrap64 (x42_2 + 1))))) else (none)) = some r := by first|(rw [hy195];with_reducible exact H)|(have H2_ := (Option.bind_some _ _).symm.trans H;rw [hy195];with_reducible exact H2_)|(have H2_ := (Option.bind_some _ _).symm.trans H;with_reducible exact H2_)|with_reducible exact H|(rw [hy195];exact H)|exact H
             have Ny195 := Aside0.mk hy195
             clear hy195
             by_cases c31 : t194 < ((rd_L1 t187 x42_2).length : Int)
             ·rw [if_pos c31] at H
              have c31b0 : decide (t194 < ((rd_L1 t187 x42_2).length : Int)) = true := decide_eq_true c31
              clear c31
              replace H := Option.bind_eq_some_iff.mp H
              obtain ⟨t197, A320, H⟩ := H
              replace H : (if t197 = 0 then (none) else (impl_NullVector.l0 k2 l1 (l1.length : Int) t187 (wrap64 ((wrap64 (Int.tdiv x7_2 t197)) * (rd (rd_L1 t187 x42_2) t194))) y195 t187 (t187.length : Int) (wrap64 (x42_2 + 1)))) = some r := H
              have A32 := Aside0.mk A320
              clear A320
              by_cases c33 : t197 = 0
              ·rw [if_pos c33] at H
               exact absurd H (by simp)
              ·rw [if_neg c33] at H
               have c33b0 : (t197 == 0) = false := beq_eq_false_iff_ne.mpr c33
               have c33b1 : (t197 != 0) = true := bne_iff_ne.mpr c33
               have H' := Aside0.mk H
               clear H
               have p193 : 0 ≤ (x42_2 : Int) := of_decide_eq_true (by first|(with_reducible assumption)|assumption)
               have q193 : x42_2 < (t187.length : Int) := of_decide_eq_true (by first|(with_reducible assumption)|assumption)
               obtain ⟨ad193, A193_0, c193_0, e193, hx193_0, hl193_0, hi193_0⟩ := at_L1 (Kd.N_reads' HO_40.out).2.2 x42_2 p193 q193
               cases e193
               obtain ⟨ce193, hce193, hMe193, hcc193⟩ := Kd.N_get HO_40.out [] x42_2 p193 (by first|exact q193|exact of_decide_eq_true (by first|(with_reducible assumption)|assumption)|(have e_ := (Kd.N_reads' HO_40.out).1;omega))
               obtain ⟨ua193_0, uc193_0, rfl, ul193_0, ge193_0⟩ := Kd.FK_slice_open hMe193
               have hv193_0 := hcc193 0 _ rfl
               rw [Nat.add_zero, show ((Kd.slice 3 (Kd.int .i64))).sz = 1 from rfl, Nat.mul_one] at hv193_0
               replace hv193_0 := Option.some.inj (hv193_0.symm.trans hx193_0)
               injection hv193_0 with hva_ hvn_ hvc_
               rw [hva_] at ge193_0
               rw [hvc_] at ul193_0
               have HL193_0 := Aside0.mk (show Kd.V (Kd.int .i64) 3 _ w.heap.size _ _ (rd_L1 t187 x42_2) from Kd.V_mk ul193_0 ge193_0)
               clear hva_ hvn_ hvc_ ge193_0 ul193_0
               clear hcc193 hce193
               have HR193_0 := Aside0.mk hi193_0
               have HC193_0 := Aside0.mk hl193_0
               clear hi193_0 hl193_0
               replace p193 := eq_true p193
               replace q193 := eq_true q193
               try go_wp2_with (first|((with_reducible refine gate_callee (f := 59) rfl ?_);refine goesL_ (some 47) rfl rfl Try.func59 (by kernel_rfl) rfl #[.slice A193_0 (rd_L1 t187 x42_2).length c193_0] rfl (by (try simp only [List.map_toArray, List.map_cons, List.map_nil]);first|done|rfl|(simp only [List.length_drop, List.length_take];rfl)) ?_;(with_reducible refine (impl_lead.calls k2 _ _ (rd_L1 t187 x42_2) t194 _ ?side1 ?side2 A27.out).mono ?_);(case side1 => repeat (first|exact (by repeat (first|(with_reducible exact HR193_0.out)|(with_reducible refine Kd.C_alloc ?_ _)|(with_reducible refine Kd.C_drewN ?_ _)|(with_reducible refine Kd.C_drew ?_)|exact HR193_0.out))|(with_reducible refine Kd.C_alloc ?_ _)|(with_reducible refine Kd.C_drewN ?_ _)|(with_reducible refine Kd.C_drew ?_)));(case side2 => exact HC193_0.out);rintro e w' ⟨rfl, ⟨nd, rfl⟩⟩;refine ⟨_, rfl, ?_⟩;(try (rw [drewN_self wr];generalize hq_ : World.drewN wr _ = wr;have n0_ : Aside0 (Kd.V (Kd.int .i64) 3 wr w.heap.size (fun k_ => (P1_ k_ ∨ w.heap.size ≤ k_) ∧ some k_ ≠ (.slice (some ad193) t187.length co23 : Value).ownBlock ∧ some k_ ≠ (v191 : Value).ownBlock) (.slice A193_0 (rd_L1 t187 x42_2).length c193_0) (rd_L1 t187 x42_2)) := ⟨by rw [← hq_];exact (by (with_reducible repeat (first|apply Kd.V_alloc|apply Kd.V_drewN|apply Kd.V_drew));exact Kd.V_mono HL193_0.out (fun _ hk => by first|exact ⟨hk.1.1, ⟨hk.2, hk.1.2⟩⟩|((repeat' apply And.intro) <;> first|exact hk.1|exact hk.2|exact hk.1.1|exact hk.1.2|exact hk.2.1|exact hk.2.2|exact hk.1.1.1|exact hk.1.1.2|exact hk.1.2.1|exact hk.1.2.2|exact hk.2.1.1|exact hk.2.1.2|exact hk.2.2.1|exact hk.2.2.2|exact hk.2.2.2.1|exact hk.2.2.2.2|exact hk.1.2.2.1|exact hk.1.2.2.2|exact hk.1.2.2.2.1|exact hk.1.2.2.2.2)))⟩;have n1_ : Aside0 (Kd.V (Kd.int .i64) 3 wr w.heap.size (fun k_ => (P1_ k_ ∨ w.heap.size ≤ k_) ∧ some k_ ≠ (.slice (some ad193) t187.length co23 : Value).ownBlock ∧ some k_ ≠ (.slice (some ad193) t187.length co23 : Value).ownBlock ∧ some k_ ≠ (v191 : Value).ownBlock) (.slice A1 l1.length c1) l1) := ⟨by rw [← hq_];exact (by (with_reducible repeat (first|apply Kd.V_alloc|apply Kd.V_drewN|apply Kd.V_drew));exact Kd.V_mono HO_1.out (fun _ hk => by first|exact ⟨hk.1, ⟨hk.2.2.2, ⟨hk.2.1, hk.2.2.1⟩⟩⟩|((repeat' apply And.intro) <;> first|exact hk.1|exact hk.2|exact hk.1.1|exact hk.1.2|exact hk.2.1|exact hk.2.2|exact hk.1.1.1|exact hk.1.1.2|exact hk.1.2.1|exact hk.1.2.2|exact hk.2.1.1|exact hk.2.1.2|exact hk.2.2.1|exact hk.2.2.2|exact hk.2.2.2.1|exact hk.2.2.2.2|exact hk.1.2.2.1|exact hk.1.2.2.2|exact hk.1.2.2.2.1|exact hk.1.2.2.2.2)))⟩;have n2_ : Aside0 (Kd.N (Kd.slice 3 (Kd.int .i64)) 23 wr w.heap.size (fun k_ => (P1_ k_ ∨ w.heap.size ≤ k_) ∧ some k_ ≠ (v191 : Value).ownBlock) (.slice (some ad193) t187.length co23) t187) := ⟨by rw [← hq_];exact (by (with_reducible repeat (first|apply Kd.N_alloc|apply Kd.N_drewN|apply Kd.N_drew));exact HO_40.out)⟩;have n3_ : Aside0 (Kd.N (Kd.slice 3 (Kd.int .i64)) 23 wr w.heap.size (fun k_ => (P1_ k_ ∨ w.heap.size ≤ k_) ∧ some k_ ≠ (v191 : Value).ownBlock) (.slice (some ad193) t187.length co23) t187) := ⟨by rw [← hq_];exact (by (with_reducible repeat (first|apply Kd.N_alloc|apply Kd.N_drewN|apply Kd.N_drew));exact HO_6.out)⟩;have n4_ : Aside0 (Kd.R Kd.bool 4 wr w.heap.size (fun k_ => (w.heap.size ≤ k_)) v191 x8_2) := ⟨by rw [← hq_];exact (by (with_reducible repeat (first|apply Kd.R_alloc|apply Kd.R_drewN|apply Kd.R_drew));exact HO_8.out)⟩;have n5_ : Aside0 (Below w.heap.size w wr) := ⟨by rw [← hq_];exact (by repeat first|(with_reducible first|exact HB.out|apply below_alloc|apply pw_below_drewN|apply below_drew1)|exact HB.out)⟩;have n6_ : Aside0 (Kd.C (Kd.int .i64) wr A193_0 (rd_L1 t187 x42_2).length (rd_L1 t187 x42_2)) := ⟨by rw [← hq_];exact (by repeat (first|(with_reducible exact HR193_0.out)|(with_reducible refine Kd.C_alloc ?_ _)|(with_reducible refine Kd.C_drewN ?_ _)|(with_reducible refine Kd.C_drew ?_)|exact HR193_0.out))⟩;clear HL193_0 HO_1 HO_40 HO_6 HO_8 HB HR193_0 hq_;have HL193_0 := n0_;have HO_1 := n1_;have HO_40 := n2_;have HO_6 := n3_;have HO_8 := n4_;have HB := n5_;have HR193_0 := n6_;clear n0_ n1_ n2_ n3_ n4_ n5_ n6_));have p30 : 0 ≤ (t194 : Int) := of_decide_eq_true (by first|(with_reducible assumption)|assumption);have q30 : (t194 : Int) < ((x8_2.length : Int) : Int) := of_decide_eq_true (by first|(with_reducible assumption)|assumption);obtain ⟨go30, co30, eo30, gb30, gl30, cl30, HG30⟩ := Kd.R_form HO_8.out (by omega);(first|cases eo30|(injection eo30 with ea_ en_ ec_;(first|subst ea_|(injection ea_ with ea_;subst ea_));subst ec_;clear en_));have GB30 := Aside0.mk gb30;have GG30 := Aside0.mk HG30;clear gb30 gl30 HG30;obtain ⟨hx30_0, hf30_0⟩ := Kd.R_celln false HO_8.out (t194 : Int) p30 q30;replace p30 := eq_true p30;replace q30 := eq_true q30;obtain ⟨hy34_, hz34_⟩ := Kd.R_celln false HO_8.out (t194 : Int) (of_decide_eq_true (by first|(with_reducible assumption)|assumption)) (of_decide_eq_true (by first|(with_reducible assumption)|assumption));have HP34 := Kd.R_putg HO_8.out (t194 : Int) true)|((with_reducible refine gate_store (t := 4) (p := 50) rfl ?_);refine store_event (t := 4) (p := 50) (v := ?vo_w35) (w1 := (wr.setCell ⟨go30, (t194 : Int).toNat, none⟩ (.bool true))) ?hg ?ho ?hn ?hr ?_;(case ho => rfl);(case hg => rfl);(case hn => rfl);(case hr => first|(go_simp;done)|(go_simp;rfl));intro w35 hw;have hg : wr.grownBy w35 (some go30) := (by rw [hw];exact HP34.2);have hp_ : Kd.R Kd.bool 4 w35 w.heap.size (fun k_ => (w.heap.size ≤ k_)) (.slice (some ⟨go30, 0, none⟩) x8_2.length co30) y195 := (by rw [hw, Ny195.out];exact HP34.1);clear HP34;have n0_ := Aside0.mk (Kd.V_afterv (v := (.slice (some ⟨go30, 0, none⟩) x8_2.length co30)) (v1 := (.slice (some ⟨go30, 0, none⟩) x8_2.length co30)) (ok := (fun k_ => (P1_ k_ ∨ w.heap.size ≤ k_) ∧ some k_ ≠ (.slice (some ad193) t187.length co23 : Value).ownBlock ∧ some k_ ≠ (.slice (some ad193) t187.length co23 : Value).ownBlock)) (by (with_reducible repeat (first|apply Kd.V_alloc|apply Kd.V_drewN|apply Kd.V_drew));exact Kd.V_mono HO_1.out (fun _ hk => by first|exact ⟨⟨hk.1, ⟨hk.2.1, hk.2.2.2⟩⟩, hk.2.2.1⟩|((repeat' apply And.intro) <;> first|exact hk.1|exact hk.2|exact hk.1.1|exact hk.1.2|exact hk.2.1|exact hk.2.2|exact hk.1.1.1|exact hk.1.1.2|exact hk.1.2.1|exact hk.1.2.2|exact hk.2.1.1|exact hk.2.1.2|exact hk.2.2.1|exact hk.2.2.2|exact hk.2.2.2.1|exact hk.2.2.2.2|exact hk.1.2.2.1|exact hk.1.2.2.2|exact hk.1.2.2.2.1|exact hk.1.2.2.2.2))) hg (.inl rfl));have n1_ := Aside0.mk (Kd.N_afterv (v := (.slice (some ⟨go30, 0, none⟩) x8_2.length co30)) (v1 := (.slice (some ⟨go30, 0, none⟩) x8_2.length co30)) (ok := (fun k_ => (P1_ k_ ∨ w.heap.size ≤ k_))) (by (with_reducible repeat (first|apply Kd.N_alloc|apply Kd.N_drewN|apply Kd.N_drew));exact HO_6.out) hg (.inl rfl));have n2_ := Aside0.mk (hp_);have n3_ := Aside0.mk (Kd.N_afterv (v := (.slice (some ⟨go30, 0, none⟩) x8_2.length co30)) (v1 := (.slice (some ⟨go30, 0, none⟩) x8_2.length co30)) (ok := (fun k_ => (P1_ k_ ∨ w.heap.size ≤ k_))) (by (with_reducible repeat (first|apply Kd.N_alloc|apply Kd.N_drewN|apply Kd.N_drew));exact HO_40.out) hg (.inl rfl));have n4_ := Aside0.mk (Kd.V_afterv (v := (.slice (some ⟨go30, 0, none⟩) x8_2.length co30)) (v1 := (.slice (some ⟨go30, 0, none⟩) x8_2.length co30)) (ok := (fun k_ => (P1_ k_ ∨ w.heap.size ≤ k_) ∧ some k_ ≠ (.slice (some ad193) t187.length co23 : Value).ownBlock)) (by (with_reducible repeat (first|apply Kd.V_alloc|apply Kd.V_drewN|apply Kd.V_drew));exact Kd.V_mono HL193_0.out (fun _ hk => by first|exact ⟨⟨hk.1.1, hk.2⟩, hk.1.2⟩|((repeat' apply And.intro) <;> first|exact hk.1|exact hk.2|exact hk.1.1|exact hk.1.2|exact hk.2.1|exact hk.2.2|exact hk.1.1.1|exact hk.1.1.2|exact hk.1.2.1|exact hk.1.2.2|exact hk.2.1.1|exact hk.2.1.2|exact hk.2.2.1|exact hk.2.2.2|exact hk.2.2.2.1|exact hk.2.2.2.2|exact hk.1.2.2.1|exact hk.1.2.2.2|exact hk.1.2.2.2.1|exact hk.1.2.2.2.2))) hg (.inl rfl));have n5_ := Aside0.mk ((by rw [hw];exact below_set (HB.out) GB30.out : Below w.heap.size w w35));clear HO_1;clear HO_6;clear HO_8;clear HO_40;clear HL193_0;clear HB;have HO_1 := n0_;have HO_6 := n1_;have HO_8 := n2_;have HO_40 := n3_;have HL193_0 := n4_;have HB := n5_;clear n0_ n1_ n2_ n3_ n4_ n5_;clear hg hw hp_))
               have n0_ := Aside0.mk (Kd.V_drew HO_1.out)
               have n1_ := Aside0.mk (Kd.N_drew HO_6.out)
               have n2_ := Aside0.mk (Kd.R_drew HO_8.out)
               have n3_ := Aside0.mk (Kd.N_drew HO_40.out)
               have n4_ := Aside0.mk (Kd.V_drew HL193_0.out)
               have n5_ := Aside0.mk (below_drew1 HB.out)
               clear HO_1
               clear HO_6
               clear HO_8
               clear HO_40
               clear HL193_0
               clear HB
               have HO_1 := n0_
               have HO_6 := n1_
               have HO_8 := n2_
               have HO_40 := n3_
               have HL193_0 := n4_
               have HB := n5_
               clear n0_ n1_ n2_ n3_ n4_ n5_
               have p196 : 0 ≤ (t194 : Int) := of_decide_eq_true (by first|(with_reducible assumption)|assumption)
               have q196 : t194 < ((rd_L1 t187 x42_2).length : Int) := of_decide_eq_true (by first|(with_reducible assumption)|assumption)
               obtain ⟨ad196, e196, hx196_0⟩ := Kd.at_int (by repeat (first|(with_reducible exact (Kd.V_reads' HL193_0.out).2.2)|(with_reducible refine Kd.C_alloc ?_ _)|(with_reducible refine Kd.C_drewN ?_ _)|(with_reducible refine Kd.C_drew ?_)|exact (Kd.V_reads' HL193_0.out).2.2)) t194 p196 q196
               cases e196
               replace p196 := eq_true p196
               replace q196 := eq_true q196
               have p198 : 0 ≤ (t194 : Int) := of_decide_eq_true (by first|(with_reducible assumption)|assumption)
               have q198 : t194 < ((rd_L1 t187 x42_2).length : Int) := of_decide_eq_true (by first|(with_reducible assumption)|assumption)
               obtain ⟨ad198, e198, hx198_0⟩ := Kd.at_int (by repeat (first|(with_reducible exact (Kd.V_reads' HL193_0.out).2.2)|(with_reducible refine Kd.C_alloc ?_ _)|(with_reducible refine Kd.C_drewN ?_ _)|(with_reducible refine Kd.C_drew ?_)|exact (Kd.V_reads' HL193_0.out).2.2)) t194 p198 q198
               obtain rfl : ad196 = ad198 := (by injection e198)
               replace p198 := eq_true p198
               replace q198 := eq_true q198
               refine start_ (n := 14) (S := fun w' => w'.cell? (ad196.add (t194).toNat) = some (.int .i64 (rd (rd_L1 t187 x42_2) t194)) ∧ w'.cell? (ad196.add (t194).toNat) = some (.int .i64 (rd (rd_L1 t187 x42_2) t194))) (ds := []) #[false, false, false, false, false, false, false, false, false, false, false, false, false, false] (by kernel_rfl) rfl rfl ⟨hx196_0, hx198_0⟩ (fun hHeld => ?_);refine with_tabW impl_NullVector.tab12 impl_NullVector.bits12 (fun HT_ HW_ => ?_)
               generalize w35.drew = w36 at HO_1 HO_6 HO_8 HO_40 HL193_0 HB hx196_0 hx198_0 hHeld ⊢
               refine pure_ (i := 0) (N := some 51) (v := ?_) (a' := ?_) #[true, false, false, false, false, false, false, false, false, false, false, false, false, false] rfl rfl (any_of HT_.out (by kernel_rfl)) (fun _ _ _ h => h) (Or.inl ⟨by rfl, ?_⟩) ?_ ?_
               rotate_left
               ·intro w'
                go_simp
                with_reducible rfl
               rotate_left
               ·simp only [Act.put, List.setIfInBounds_toArray, List.set_cons_zero, List.set_cons_succ, i64_w, i32_w]
                rfl
               refine pure_ (i := 1) (N := some 52) (v := ?_) (a' := ?_) #[true, true, false, false, false, false, false, false, false, false, false, false, false, false] rfl rfl (any_of HT_.out (by kernel_rfl)) (fun _ _ _ h => h) (Or.inl ⟨by rfl, ?_⟩) ?_ ?_
               rotate_left
               ·intro w'
                go_simp
                with_reducible rfl
               rotate_left
               ·simp only [Act.put, List.setIfInBounds_toArray, List.set_cons_zero, List.set_cons_succ, i64_w, i32_w]
                rfl
               refine pure_ (i := 2) (N := some 53) (v := ?_) (a' := ?_) #[true, true, true, false, false, false, false, false, false, false, false, false, false, false] rfl rfl (any_of HT_.out (by kernel_rfl)) (fun _ _ _ h => h) (Or.inl ⟨by rfl, ?_⟩) ?_ ?_
               rotate_left
               ·intro w'
                go_simp
                with_reducible rfl
               rotate_left
               ·simp only [Act.put, List.setIfInBounds_toArray, List.set_cons_zero, List.set_cons_succ, i64_w, i32_w]
                rfl
               refine pure_ (i := 3) (N := some 54) (v := ?_) (a' := ?_) #[true, true, true, true, false, false, false, false, false, false, false, false, false, false] rfl rfl (any_of HT_.out (by kernel_rfl)) (fun _ _ _ h => h) (Or.inl ⟨by rfl, ?_⟩) ?_ ?_
               rotate_left
               ·intro w'
                go_simp
                with_reducible rfl
               rotate_left
               ·simp only [Act.put, List.setIfInBounds_toArray, List.set_cons_zero, List.set_cons_succ, i64_w, i32_w]
                rfl
               refine pure_ (i := 4) (N := some 55) (v := ?_) (a' := ?_) #[true, true, true, true, true, false, false, false, false, false, false, false, false, false] rfl rfl (any_of HT_.out (by kernel_rfl)) (fun _ _ _ h => h) (Or.inl ⟨by rfl, ?_⟩) ?_ ?_
               rotate_left
               ·intro w'
                go_simp
                with_reducible rfl
               rotate_left
               ·simp only [Act.put, List.setIfInBounds_toArray, List.set_cons_zero, List.set_cons_succ, i64_w, i32_w]
                rfl
               refine pure_ (i := 8) (N := some 59) (v := ?_) (a' := ?_) #[true, true, true, true, true, false, false, false, true, false, false, false, false, false] rfl rfl (any_of HT_.out (by kernel_rfl)) (fun _ _ _ h => h) (Or.inl ⟨by rfl, ?_⟩) ?_ ?_
               rotate_left
               ·intro w'
                go_simp
                with_reducible rfl
               rotate_left
               ·simp only [Act.put, List.setIfInBounds_toArray, List.set_cons_zero, List.set_cons_succ, i64_w, i32_w]
                rfl
               refine pure_ (i := 9) (N := some 60) (v := ?_) (a' := ?_) #[true, true, true, true, true, false, false, false, true, true, false, false, false, false] rfl rfl (any_of HT_.out (by kernel_rfl)) (fun _ _ _ h => h) (Or.inl ⟨by rfl, ?_⟩) ?_ ?_
               rotate_left
               ·intro w'
                go_simp
                with_reducible rfl
               rotate_left
               ·simp only [Act.put, List.setIfInBounds_toArray, List.set_cons_zero, List.set_cons_succ, i64_w, i32_w]
                rfl
               refine pure_ (i := 10) (N := some 61) (v := ?_) (a' := ?_) #[true, true, true, true, true, false, false, false, true, true, true, false, false, false] rfl rfl (any_of HT_.out (by kernel_rfl)) (fun _ _ _ h => h) (Or.inl ⟨by rfl, ?_⟩) ?_ ?_
               rotate_left
               ·intro w'
                go_simp
                with_reducible rfl
               rotate_left
               ·simp only [Act.put, List.setIfInBounds_toArray, List.set_cons_zero, List.set_cons_succ, i64_w, i32_w]
                rfl
               refine take_ (i := 5) (N := some 56) (v := ?_) (a' := ?_) #[true, true, true, true, true, true, false, false, true, true, true, false, false, false] rfl rfl (take_ofW HT_.out HW_.out (by kernel_rfl)) (fun _ _ _ h => h) (Or.inl ⟨by rfl, ?_⟩) hHeld ?_ ?_
               rotate_left
               ·rintro w' ⟨s0, s1⟩
                go_simp
                with_reducible rfl
               rotate_left
               ·simp only [Act.put, List.setIfInBounds_toArray, List.set_cons_zero, List.set_cons_succ, i64_w, i32_w]
                rfl
               refine take_ (i := 11) (N := some 62) (v := ?_) (a' := ?_) #[true, true, true, true, true, true, false, false, true, true, true, true, false, false] rfl rfl (take_ofW HT_.out HW_.out (by kernel_rfl)) (fun _ _ _ h => h) (Or.inl ⟨by rfl, ?_⟩) hHeld ?_ ?_
               rotate_left
               ·rintro w' ⟨s0, s1⟩
                go_simp
                with_reducible rfl
               rotate_left
               ·simp only [Act.put, List.setIfInBounds_toArray, List.set_cons_zero, List.set_cons_succ, i64_w, i32_w]
                rfl
               refine one_ (i := 6) (N := some 57) #[true, true, true, true, true, true, true, false, true, true, true, true, false, false] rfl rfl (one_of HT_.out (by kernel_rfl)) (by decide) (fun K hK => ?_)
               refine goes_ Try.func60 (by kernel_rfl) rfl #[.int .i64 x7_2, .int .i64 (rd (rd_L1 t187 x42_2) t194)] (by rfl) rfl rfl (by (try simp only [List.map_toArray, List.map_cons, List.map_nil]);first|done|rfl|(simp only [List.length_drop, List.length_take];rfl)) ?_
               with_reducible refine (impl_gcd.calls k2 x7_2 (rd (rd_L1 t187 x42_2) t194) t197 _ A32.out).mono ?_
               rintro e w' ⟨rfl, ⟨nd, rfl⟩⟩
               refine ⟨_, rfl, ?_⟩
               refine hK.out _ _ ⟨hHeld.1, hHeld.2⟩ (fun hHeld => ?_)
               clear hK K
               refine norm_ (a' := ?_) ?_ ?_
               rotate_left
               ·show Act.put _ (some 57) _ = _
                simp only [Act.put, List.setIfInBounds_toArray, List.set_cons_zero, List.set_cons_succ, i64_w, i32_w]
                rfl
               refine pure_ (i := 7) (N := some 58) (v := ?_) (a' := ?_) #[true, true, true, true, true, true, true, true, true, true, true, true, false, false] rfl rfl (any_of HT_.out (by kernel_rfl)) (fun _ _ _ h => h) (Or.inl ⟨by rfl, ?_⟩) ?_ ?_
               rotate_left
               ·intro w'
                go_simp
                with_reducible rfl
               rotate_left
               ·simp only [Act.put, List.setIfInBounds_toArray, List.set_cons_zero, List.set_cons_succ, i64_w, i32_w]
                rfl
               refine pure_ (i := 12) (N := some 63) (v := ?_) (a' := ?_) #[true, true, true, true, true, true, true, true, true, true, true, true, true, false] rfl rfl (any_of HT_.out (by kernel_rfl)) (fun _ _ _ h => h) (Or.inl ⟨by rfl, ?_⟩) ?_ ?_
               rotate_left
               ·intro w'
                go_simp
                with_reducible rfl
               rotate_left
               ·simp only [Act.put, List.setIfInBounds_toArray, List.set_cons_zero, List.set_cons_succ, i64_w, i32_w]
                rfl
               refine pure_ (i := 13) (N := some 7) (v := ?_) (a' := ?_) #[true, true, true, true, true, true, true, true, true, true, true, true, true, true] rfl rfl (any_of HT_.out (by kernel_rfl)) (fun _ _ _ h => h) (Or.inl ⟨by rfl, ?_⟩) ?_ ?_
               rotate_left
               ·intro w'
                go_simp
                with_reducible rfl
               rotate_left
               ·simp only [Act.put, List.setIfInBounds_toArray, List.set_cons_zero, List.set_cons_succ, i64_w, i32_w]
                rfl
               refine done_ (done_of HT_.out (by kernel_rfl)) ?_
               try go_wp2
               go_roundg k2
               case measure => have := HJ2.out;have := HK2.out;omega
               case rel => exact ⟨(wrap64 ((wrap64 (Int.tdiv x7_2 t197)) * (rd (rd_L1 t187 x42_2) t194))), (y195), (wrap64 (x42_2 + 1)), (by first|rfl|(simp;done)|(simp [*];done)), (by first|rfl|(simp;done)|(simp [*];done)), H', ⟨by have := HJ2.out;have := HK2.out;omega⟩, ⟨by (with_reducible repeat (first|apply Kd.V_alloc|apply Kd.V_drewN|apply Kd.V_drew));exact Kd.V_mono HO_1.out (fun _ hk => by first|exact ⟨hk.1.1, ⟨hk.1.2.1, ⟨hk.2, hk.1.2.2⟩⟩⟩|((repeat' apply And.intro) <;> first|exact hk.1|exact hk.2|exact hk.1.1|exact hk.1.2|exact hk.2.1|exact hk.2.2|exact hk.1.1.1|exact hk.1.1.2|exact hk.1.2.1|exact hk.1.2.2|exact hk.2.1.1|exact hk.2.1.2|exact hk.2.2.1|exact hk.2.2.2|exact hk.2.2.2.1|exact hk.2.2.2.2|exact hk.1.2.2.1|exact hk.1.2.2.2|exact hk.1.2.2.2.1|exact hk.1.2.2.2.2))⟩, ⟨by (with_reducible repeat (first|apply Kd.N_alloc|apply Kd.N_drewN|apply Kd.N_drew));exact HO_6.out⟩, ⟨by (with_reducible repeat (first|apply Kd.R_alloc|apply Kd.R_drewN|apply Kd.R_drew));exact HO_8.out⟩, ⟨by (with_reducible repeat (first|apply Kd.N_alloc|apply Kd.N_drewN|apply Kd.N_drew));exact HO_40.out⟩, ⟨by repeat (first|(with_reducible first|exact HB.out|apply below_alloc|apply pw_below_drewN|apply below_drew1)|exact HB.out)⟩⟩
             ·rw [if_neg c31] at H
              exact absurd H (by simp)
            ·rw [if_neg c29] at H
             exact absurd H (by simp)
           ·rw [if_neg c28] at H
            exact absurd H (by simp)
          ·rw [if_neg c26] at H
           exact absurd H (by simp)
         ·rw [if_neg c25] at H
          exact absurd H (by simp)
        ·rw [if_neg c24] at H
         have c24b0 : decide (x42_2 < (t187.length : Int)) = false := decide_eq_false c24
         clear c24
         have H' := Aside0.mk H
         clear H
         go_wp2
         go_loopg [66] k2 (fun kq v66 w' => ∃ (x1_3 : List Int) (x66_3 : Int), v66 = .int .i64 x66_3 ∧ Aside0 (impl_NullVector.l1 kq x1_3 (l1.length : Int) t187 x7_2 x8_2 (l1.length : Int) x66_3 = some r) ∧ Aside0 (kq ≤ k2) ∧ Aside0 (Kd.V (Kd.int .i64) 3 w' w.heap.size (fun k_ => (P1_ k_ ∨ w.heap.size ≤ k_) ∧ some k_ ≠ ((.slice Ao23 t187.length co23) : Value).ownBlock ∧ some k_ ≠ (v191 : Value).ownBlock) (.slice A1 l1.length c1) x1_3) ∧ Aside0 (Kd.N (Kd.slice 3 (Kd.int .i64)) 23 w' w.heap.size (fun k_ => (P1_ k_ ∨ w.heap.size ≤ k_) ∧ some k_ ≠ (v191 : Value).ownBlock) (.slice Ao23 t187.length co23) t187) ∧ Aside0 (Kd.R Kd.bool 4 w' w.heap.size (fun k_ => (w.heap.size ≤ k_)) v191 x8_2) ∧ Aside0 (Below w.heap.size w w'))
         case atStart => exact ⟨(l1), (0), (by first|rfl|(simp;done)|(simp [*];done)), H', ⟨Nat.le_refl _⟩, ⟨by (with_reducible repeat (first|apply Kd.V_alloc|apply Kd.V_drewN|apply Kd.V_drew));exact Kd.V_mono HO_1.out (fun _ hk => by first|exact ⟨hk.1, ⟨hk.2.1, hk.2.2.1⟩⟩|((repeat' apply And.intro) <;> first|exact hk.1|exact hk.2|exact hk.1.1|exact hk.1.2|exact hk.2.1|exact hk.2.2|exact hk.1.1.1|exact hk.1.1.2|exact hk.1.2.1|exact hk.1.2.2|exact hk.2.1.1|exact hk.2.1.2|exact hk.2.2.1|exact hk.2.2.2|exact hk.2.2.2.1|exact hk.2.2.2.2|exact hk.1.2.2.1|exact hk.1.2.2.2|exact hk.1.2.2.2.1|exact hk.1.2.2.2.2))⟩, ⟨by (with_reducible repeat (first|apply Kd.N_alloc|apply Kd.N_drewN|apply Kd.N_drew));exact HO_6.out⟩, ⟨by (with_reducible repeat (first|apply Kd.R_alloc|apply Kd.R_drewN|apply Kd.R_drew));exact HO_8.out⟩, ⟨by repeat (first|(with_reducible first|exact HB.out|apply below_alloc|apply pw_below_drewN|apply below_drew1)|exact HB.out)⟩⟩
         case round =>
          clear H'
          try clear c1
          try clear p1
          try clear q1
          try clear hx1
          try clear c2
          try clear p2
          try clear c3
          try clear p3
          try clear q3
          try clear hx3
          try clear hf3
          try clear c4
          try clear c5
          try clear c6
          try clear p6
          try clear c7
          try clear c16
          try clear c18
          try clear c18b0
          try clear c18b1
          try clear c19
          try clear c19b0
          try clear c19b1
          try clear p19
          try clear q19
          try clear hx19
          try clear c24
          try clear c24b0
          try clear c25
          try clear c25b0
          try clear c26
          try clear c26b0
          try clear c28
          try clear c28b0
          try clear c29
          try clear c29b0
          try clear p30
          try clear q30
          try clear hx30
          try clear hf30
          try clear c31
          try clear c31b0
          try clear c33
          try clear c33b0
          try clear c33b1
          try clear hx193_0
          try clear hx196_0
          try clear hx198_0
          try clear hx30_0
          try clear p193
          try clear p196
          try clear p198
          try clear p2
          try clear p30
          try clear q193
          try clear q196
          try clear q198
          try clear q30
          obtain ⟨x1_3, x66_3, rfl, HA, HK3, HO_1, HO_6, HO_8, HB⟩ := hrel
          have hl1_3 := (Kd.V_reads' HO_1.out).1
          rw [hl1_3] at HO_1
          (try simp only [hl1_3])
          (try simp only [hl1_3] at HO_6)
          (try simp only [hl1_3] at HO_8)
          cases gk with
         |zero => exact absurd HA.out (by simp [impl_NullVector.l1])
         |succ k3 =>
           have H := HA.out
           clear HA
           simp only [impl_NullVector.l1] at H
           by_cases c37 : x66_3 < (l1.length : Int)
           ·rw [if_pos c37] at H
            have c37b0 : decide (x66_3 < (l1.length : Int)) = true := decide_eq_true c37
            have c37b1 : decide (x66_3 < (x1_3.length : Int)) = true := by rw [show (x1_3.length : Int) = (l1.length : Int) by omega];exact c37b0
            clear c37
            by_cases c38 : 0 ≤ x66_3
            ·rw [if_pos c38] at H
             have c38b0 : decide (0 ≤ x66_3) = true := decide_eq_true c38
             clear c38
             by_cases c39 : x66_3 < (x8_2.length : Int)
             ·rw [if_pos c39] at H
              have c39b0 : decide (x66_3 < (x8_2.length : Int)) = true := decide_eq_true c39
              clear c39
              obtain ⟨bq40, hbq40⟩ : ∃ b_ : Bool, b_ = (rdOf false x8_2 x66_3) := ⟨_, rfl⟩
              replace H : (if bq40 = true then (impl_NullVector.l1 k3 x1_3 (l1.length : Int) t187 x7_2 x8_2 (l1.length : Int) (wrap64 (x66_3 + 1))) else (if 0 ≤ (l1.length : Int) then (if ((l1.length : Int) : Int).toNat ≤ 35184372088832 then ((some (List.replicate ((l1.length : Int) : Int).toNat 0 : List Int)).bind fun y200 => (if x66_3 < (y200.length : Int) then (impl_NullVector.l2 k3 x1_3 (l1.length : Int) t187 x7_2 x8_2 x66_3 (y200.set (x66_3 : Int).toNat x7_2) (l1.length : Int) x66_3 t187 (t187.length : Int) 0) else (none))) else (none)) else (none))) = some r := by rw [← hbq40] at H;exact H
              have Nbq40 := Aside0.mk hbq40
              clear hbq40
              by_cases c41 : bq40 = true
              ·subst c41
               have H1 : (impl_NullVector.l1 k3 x1_3 (l1.length : Int) t187 x7_2 x8_2 (l1.length : Int) (wrap64 (x66_3 + 1))) = some r := by rw [if_pos rfl] at H;exact H
               clear H
               have H := H1
               clear H1
               have H' := Aside0.mk H
               clear H
               obtain ⟨Ao42, co42, eo42⟩ := Kd.R_slice HO_8.out
               subst eo42
               have p199 : 0 ≤ (x66_3 : Int) := of_decide_eq_true (by first|(with_reducible assumption)|assumption)
               have q199 : x66_3 < (x8_2.length : Int) := of_decide_eq_true (by first|(with_reducible assumption)|assumption)
               obtain ⟨ad199, e199, hx199_0⟩ := Kd.at_bool (Kd.R_reads' HO_8.out).2.2 x66_3 p199 q199
               (try rw [← Nbq40.out] at hx199_0)
               cases e199
               replace p199 := eq_true p199
               replace q199 := eq_true q199
               go_wp2
               (try simp only [← hl1_3])
               go_roundg k3
               case measure => have := HJ2.out;have := HK2.out;have := HK3.out;omega
               case rel => exact ⟨(x1_3), (wrap64 (x66_3 + 1)), (by first|rfl|(simp;done)|(simp [*];done)), H', ⟨by have := HJ2.out;have := HK2.out;have := HK3.out;omega⟩, ⟨by (try simp only [hl1_3]);(with_reducible repeat (first|apply Kd.V_alloc|apply Kd.V_drewN|apply Kd.V_drew));exact HO_1.out⟩, ⟨by (try simp only [hl1_3]);(with_reducible repeat (first|apply Kd.N_alloc|apply Kd.N_drewN|apply Kd.N_drew));exact HO_6.out⟩, ⟨by (try simp only [hl1_3]);(with_reducible repeat (first|apply Kd.R_alloc|apply Kd.R_drewN|apply Kd.R_drew));exact HO_8.out⟩, ⟨by repeat (first|(with_reducible first|exact HB.out|apply below_alloc|apply pw_below_drewN|apply below_drew1)|exact HB.out)⟩⟩
              ·replace c41 := Bool.eq_false_iff.mpr c41
               subst c41
               have H1 : (if 0 ≤ (l1.length : Int) then (if ((l1.length : Int) : Int).toNat ≤ 35184372088832 then ((some (List.replicate ((l1.length : Int) : Int).toNat 0 : List Int)).bind fun y200 => (if x66_3 < (y200.length : Int) then (impl_NullVector.l2 k3 x1_3 (l1.length : Int) t187 x7_2 x8_2 x66_3 (y200.set (x66_3 : Int).toNat x7_2) (l1.length : Int) x66_3 t187 (t187.length : Int) 0) else (none))) else (none)) else (none)) = some r := by rw [if_neg (show ¬ (false = true) by decide)] at H;exact H
               clear H
               have H := H1
               clear H1
               by_cases c43 : 0 ≤ (l1.length : Int)
               ·rw [if_pos c43] at H
                have c43b0 := eq_true c43
                have c43b1 : decide (0 ≤ (l1.length : Int)) = true := decide_eq_true c43
                clear c43
                by_cases c44 : ((l1.length : Int) : Int).toNat ≤ 35184372088832
                ·rw [if_pos c44] at H
                 have c44b0 := eq_true c44
                 have c44b1 : decide (((l1.length : Int) : Int).toNat ≤ 35184372088832) = true := decide_eq_true c44
                 clear c44
                 obtain ⟨y200, hy200⟩ : ∃ y_ : List Int, y_ = (List.replicate ((l1.length : Int) : Int).toNat 0) := ⟨_, rfl⟩
                 replace H : (if x66_3 < (y200.length : Int) then (impl_NullVector.l2 k3 x1_3 (l1.length : Int) t187 x7_2 x8_2 x66_3 (y200.set (x66_3 : Int).toNat x7_2) (l1.length : Int) x66_3 t187 (t187.length : Int) 0) else (none)) = some r := by first|(rw [hy200];with_reducible exact H)|(have H2_ := (Option.bind_some _ _).symm.trans H;rw [hy200];with_reducible exact H2_)|(have H2_ := (Option.bind_some _ _).symm.trans H;with_reducible exact H2_)|with_reducible exact H|(rw [hy200];exact H)|exact H
                 have Ny200 := Aside0.mk hy200
                 clear hy200
                 by_cases c45 : x66_3 < (y200.length : Int)
                 ·rw [if_pos c45] at H
                  have c45b0 : decide (x66_3 < (y200.length : Int)) = true := decide_eq_true c45
                  clear c45
                  obtain ⟨y203, hy203⟩ : ∃ y_ : List Int, y_ = (y200.set (x66_3 : Int).toNat x7_2) := ⟨_, rfl⟩
                  replace H : (impl_NullVector.l2 k3 x1_3 (l1.length : Int) t187 x7_2 x8_2 x66_3 y203 (l1.length : Int) x66_3 t187 (t187.length : Int) 0) = some r := by first|(rw [hy203];with_reducible exact H)|(have H2_ := (Option.bind_some _ _).symm.trans H;rw [hy203];with_reducible exact H2_)|(have H2_ := (Option.bind_some _ _).symm.trans H;with_reducible exact H2_)|with_reducible exact H|(rw [hy203];exact H)|exact H
                  have Ny203 := Aside0.mk hy203
                  clear hy203
                  have H' := Aside0.mk H
                  clear H
                  obtain ⟨Ao47, co47, eo47⟩ := Kd.R_slice HO_8.out
                  subst eo47
                  have p199 : 0 ≤ (x66_3 : Int) := of_decide_eq_true (by first|(with_reducible assumption)|assumption)
                  have q199 : x66_3 < (x8_2.length : Int) := of_decide_eq_true (by first|(with_reducible assumption)|assumption)
                  obtain ⟨ad199, e199, hx199_0⟩ := Kd.at_bool (Kd.R_reads' HO_8.out).2.2 x66_3 p199 q199
                  (try rw [← Nbq40.out] at hx199_0)
                  cases e199
                  replace p199 := eq_true p199
                  replace q199 := eq_true q199
                  (try simp only [← hl1_3])
                  go_wp2_with (first|((with_reducible refine gate_dst (N := 74) rfl ?_);(try (refine gate_guard (by rfl) ?_;dsimp only));refine Kd.R_make (Kd.int .i64) _ 3 rfl (N := 74) rfl 23 _ _ rfl (l1.length : Int) rfl rfl Try.underlying23 (.int .i64 0) 8 info3 rfl (by decide) (by omega) 0 (ok := fun _ => True) (okp := fun _ => True) rfl (fun _ hk => hk) trivial (of_decide_eq_true (by first|(with_reducible assumption)|assumption)) (Nat.le_trans (Nat.mul_le_mul_right _ (of_decide_eq_true (by first|(with_reducible assumption)|assumption) : (l1.length : Int).toNat ≤ 35184372088832)) (by omega)) (Below.refl _ _) (Nat.le_refl _) ?_;intro v201 w48 ho49 hb hg_ hnew_;clear hg_ hnew_;(first|rw [← Ny200.out] at ho49|(simp only [Int.reduceToNat] at ho49;rw [← Ny200.out] at ho49));have n0_ := Aside0.mk (Kd.V_elder' (by (with_reducible repeat (first|apply Kd.V_alloc|apply Kd.V_drewN|apply Kd.V_drew));exact HO_1.out) (Kd.R_base ho49) hb);have n1_ := Aside0.mk (Kd.N_elder' (by (with_reducible repeat (first|apply Kd.N_alloc|apply Kd.N_drewN|apply Kd.N_drew));exact HO_6.out) (Kd.R_base ho49) hb);have n2_ := Aside0.mk (Kd.R_below (by (with_reducible repeat (first|apply Kd.R_alloc|apply Kd.R_drewN|apply Kd.R_drew));exact HO_8.out) hb);have n3_ := Aside0.mk (Kd.R_lower (Kd.R_newM (M := fun k_ => (w.heap.size ≤ k_)) ho49 (below_size (by repeat first|(with_reducible first|exact HB.out|apply below_alloc|apply pw_below_drewN|apply below_drew1)|exact HB.out)) (fun k_ h_ => h_)) (below_size (by repeat first|(with_reducible first|exact HB.out|apply below_alloc|apply pw_below_drewN|apply below_drew1)|exact HB.out)));have n4_ := Aside0.mk (below_step (by repeat first|(with_reducible first|exact HB.out|apply below_alloc|apply pw_below_drewN|apply below_drew1)|exact HB.out) hb);clear HO_1;clear HO_6;clear HO_8;clear HB;have HO_1 := n0_;have HO_6 := n1_;have HO_8 := n2_;have HO202 := n3_;have HB := n4_;clear n0_ n1_ n2_ n3_ n4_;clear hb ho49;have p46 : 0 ≤ (x66_3 : Int) := of_decide_eq_true (by first|(with_reducible assumption)|assumption);have q46 : (x66_3 : Int) < ((y200.length : Int) : Int) := of_decide_eq_true (by first|(with_reducible assumption)|assumption);obtain ⟨go46, co46, eo46, gb46, gl46, cl46, HG46⟩ := Kd.R_form HO202.out (by omega);(first|cases eo46|(injection eo46 with ea_ en_ ec_;(first|subst ea_|(injection ea_ with ea_;subst ea_));subst ec_;clear en_));have GB46 := Aside0.mk gb46;have GG46 := Aside0.mk HG46;clear gb46 gl46 HG46;obtain ⟨hx46_0, hf46_0⟩ := Kd.R_celln 0 HO202.out (x66_3 : Int) p46 q46;replace p46 := eq_true p46;replace q46 := eq_true q46;have n_ := Aside0.mk (Kd.R_mono (ok' := (fun k_ => (w.heap.size ≤ k_))) HO202.out (fun k_ hk => hk.1));clear HO202;have HO202 := n_;clear n_;obtain ⟨hy50_, hz50_⟩ := Kd.R_celln 0 HO202.out (x66_3 : Int) (of_decide_eq_true (by first|(with_reducible assumption)|assumption)) (of_decide_eq_true (by first|(with_reducible assumption)|assumption));have HP50 := Kd.R_putg HO202.out (x66_3 : Int) x7_2)|((with_reducible refine gate_store (t := 3) (p := 78) rfl ?_);refine store_event (t := 3) (p := 78) (v := ?vo_w51) (w1 := (w48.setCell ⟨go46, (x66_3 : Int).toNat, none⟩ (.int .i64 x7_2))) ?hg ?ho ?hn ?hr ?_;(case ho => rfl);(case hg => rfl);(case hn => rfl);(case hr => first|(go_simp;done)|(go_simp;rfl));intro w51 hw;have hg : w48.grownBy w51 (some go46) := (by rw [hw];exact HP50.2);have hp_ : Kd.R (Kd.int .i64) 3 w51 w.heap.size (fun k_ => (w.heap.size ≤ k_)) (.slice (some ⟨go46, 0, none⟩) y200.length co46) y203 := (by rw [hw, Ny203.out];exact HP50.1);clear HP50;have n0_ := Aside0.mk (Kd.V_afterv (v := (.slice (some ⟨go46, 0, none⟩) y200.length co46)) (v1 := (.slice (some ⟨go46, 0, none⟩) y200.length co46)) (ok := (fun k_ => (P1_ k_ ∨ w.heap.size ≤ k_) ∧ some k_ ≠ (.slice Ao23 t187.length co23 : Value).ownBlock ∧ some k_ ≠ (.slice (some ad199) x8_2.length co47 : Value).ownBlock)) (by (with_reducible repeat (first|apply Kd.V_alloc|apply Kd.V_drewN|apply Kd.V_drew));exact HO_1.out) hg (.inl rfl));have n1_ := Aside0.mk (Kd.N_afterv (v := (.slice (some ⟨go46, 0, none⟩) y200.length co46)) (v1 := (.slice (some ⟨go46, 0, none⟩) y200.length co46)) (ok := (fun k_ => (P1_ k_ ∨ w.heap.size ≤ k_) ∧ some k_ ≠ (.slice (some ad199) x8_2.length co47 : Value).ownBlock)) (by (with_reducible repeat (first|apply Kd.N_alloc|apply Kd.N_drewN|apply Kd.N_drew));exact HO_6.out) hg (.inl rfl));have n2_ := Aside0.mk (Kd.R_over' (v := (.slice (some ⟨go46, 0, none⟩) y200.length co46)) (by (with_reducible repeat (first|apply Kd.R_alloc|apply Kd.R_drewN|apply Kd.R_drew));exact HO_8.out) (Kd.R_typed HO202.out) (by decide) hg);have n3_ := Aside0.mk (hp_);have n4_ := Aside0.mk ((by rw [hw];exact below_set (HB.out) GB46.out : Below w.heap.size w w51));clear HO_1;clear HO_6;clear HO_8;clear HO202;clear HB;have HO_1 := n0_;have HO_6 := n1_;have HO_8 := n2_;have HO202 := n3_;have HB := n4_;clear n0_ n1_ n2_ n3_ n4_;clear hg hw hp_))
                  (try simp only [hl1_3])
                  go_loopg [81] k3 (fun kq v81 w' => ∃ (x13_4 : List Int) (x81_4 : Int), v81 = .int .i64 x81_4 ∧ Aside0 (impl_NullVector.l2 kq x1_3 (l1.length : Int) t187 x7_2 x8_2 x66_3 x13_4 (l1.length : Int) x66_3 t187 (t187.length : Int) x81_4 = some r) ∧ Aside0 (kq ≤ k3) ∧ Aside0 (Kd.V (Kd.int .i64) 3 w' w.heap.size (fun k_ => (P1_ k_ ∨ w.heap.size ≤ k_) ∧ some k_ ≠ ((.slice Ao23 t187.length co23) : Value).ownBlock ∧ some k_ ≠ ((.slice (some ad199) x8_2.length co47) : Value).ownBlock ∧ some k_ ≠ ((.slice (some ⟨go46, 0, none⟩) y200.length co46) : Value).ownBlock ∧ some k_ ≠ ((.slice Ao23 t187.length co23) : Value).ownBlock) (.slice A1 x1_3.length c1) x1_3) ∧ Aside0 (Kd.N (Kd.slice 3 (Kd.int .i64)) 23 w' w.heap.size (fun k_ => (P1_ k_ ∨ w.heap.size ≤ k_) ∧ some k_ ≠ ((.slice (some ad199) x8_2.length co47) : Value).ownBlock ∧ some k_ ≠ ((.slice (some ⟨go46, 0, none⟩) y200.length co46) : Value).ownBlock) (.slice Ao23 t187.length co23) t187) ∧ Aside0 (Kd.R Kd.bool 4 w' w.heap.size (fun k_ => (w.heap.size ≤ k_)) (.slice (some ad199) x8_2.length co47) x8_2) ∧ Aside0 (Kd.R (Kd.int .i64) 3 w' w.heap.size (fun k_ => (w.heap.size ≤ k_)) (.slice (some ⟨go46, 0, none⟩) y200.length co46) x13_4) ∧ Aside0 (Kd.N (Kd.slice 3 (Kd.int .i64)) 23 w' w.heap.size (fun k_ => (P1_ k_ ∨ w.heap.size ≤ k_) ∧ some k_ ≠ ((.slice (some ad199) x8_2.length co47) : Value).ownBlock ∧ some k_ ≠ ((.slice (some ⟨go46, 0, none⟩) y200.length co46) : Value).ownBlock) (.slice Ao23 t187.length co23) t187) ∧ Aside0 (Below w.heap.size w w'))
                  case atStart => exact ⟨(y203), (0), (by first|rfl|(simp;done)|(simp [*];done)), H', ⟨Nat.le_refl _⟩, ⟨by (try simp only [hl1_3]);(with_reducible repeat (first|apply Kd.V_alloc|apply Kd.V_drewN|apply Kd.V_drew));exact Kd.V_mono HO_1.out (fun _ hk => by first|exact ⟨hk.1.1, ⟨hk.1.2.1, ⟨hk.1.2.2, ⟨hk.2, hk.1.2.1⟩⟩⟩⟩|((repeat' apply And.intro) <;> first|exact hk.1|exact hk.2|exact hk.1.1|exact hk.1.2|exact hk.2.1|exact hk.2.2|exact hk.1.1.1|exact hk.1.1.2|exact hk.1.2.1|exact hk.1.2.2|exact hk.2.1.1|exact hk.2.1.2|exact hk.2.2.1|exact hk.2.2.2|exact hk.2.2.2.1|exact hk.2.2.2.2|exact hk.1.2.2.1|exact hk.1.2.2.2|exact hk.1.2.2.2.1|exact hk.1.2.2.2.2))⟩, ⟨by (try simp only [hl1_3]);(with_reducible repeat (first|apply Kd.N_alloc|apply Kd.N_drewN|apply Kd.N_drew));exact Kd.N_mono HO_6.out (fun _ hk => by first|exact ⟨hk.1.1, ⟨hk.1.2, hk.2⟩⟩|((repeat' apply And.intro) <;> first|exact hk.1|exact hk.2|exact hk.1.1|exact hk.1.2|exact hk.2.1|exact hk.2.2|exact hk.1.1.1|exact hk.1.1.2|exact hk.1.2.1|exact hk.1.2.2|exact hk.2.1.1|exact hk.2.1.2|exact hk.2.2.1|exact hk.2.2.2|exact hk.2.2.2.1|exact hk.2.2.2.2|exact hk.1.2.2.1|exact hk.1.2.2.2|exact hk.1.2.2.2.1|exact hk.1.2.2.2.2))⟩, ⟨by (try simp only [hl1_3]);(with_reducible repeat (first|apply Kd.R_alloc|apply Kd.R_drewN|apply Kd.R_drew));exact HO_8.out⟩, ⟨by (try simp only [hl1_3]);(with_reducible repeat (first|apply Kd.R_alloc|apply Kd.R_drewN|apply Kd.R_drew));exact HO202.out⟩, ⟨by (try simp only [hl1_3]);(with_reducible repeat (first|apply Kd.N_alloc|apply Kd.N_drewN|apply Kd.N_drew));exact Kd.N_mono HO_6.out (fun _ hk => by first|exact ⟨hk.1.1, ⟨hk.1.2, hk.2⟩⟩|((repeat' apply And.intro) <;> first|exact hk.1|exact hk.2|exact hk.1.1|exact hk.1.2|exact hk.2.1|exact hk.2.2|exact hk.1.1.1|exact hk.1.1.2|exact hk.1.2.1|exact hk.1.2.2|exact hk.2.1.1|exact hk.2.1.2|exact hk.2.2.1|exact hk.2.2.2|exact hk.2.2.2.1|exact hk.2.2.2.2|exact hk.1.2.2.1|exact hk.1.2.2.2|exact hk.1.2.2.2.1|exact hk.1.2.2.2.2))⟩, ⟨by repeat (first|(with_reducible first|exact HB.out|apply below_alloc|apply pw_below_drewN|apply below_drew1)|exact HB.out)⟩⟩
                  case round =>
                   clear H'
                   try clear c1
                   try clear p1
                   try clear q1
                   try clear hx1
                   try clear c2
                   try clear p2
                   try clear c3
                   try clear p3
                   try clear q3
                   try clear hx3
                   try clear hf3
                   try clear c4
                   try clear p4
                   try clear q4
                   try clear hx4
                   try clear hf4
                   try clear c5
                   try clear c6
                   try clear p6
                   try clear c7
                   try clear c16
                   try clear c18
                   try clear c18b0
                   try clear c18b1
                   try clear c19
                   try clear c19b0
                   try clear c19b1
                   try clear p19
                   try clear q19
                   try clear hx19
                   try clear c24
                   try clear c24b0
                   try clear c25
                   try clear c25b0
                   try clear c26
                   try clear c26b0
                   try clear c28
                   try clear c28b0
                   try clear c29
                   try clear c29b0
                   try clear p30
                   try clear q30
                   try clear hx30
                   try clear hf30
                   try clear c31
                   try clear c31b0
                   try clear c33
                   try clear c33b0
                   try clear c33b1
                   try clear c37
                   try clear c37b0
                   try clear c38
                   try clear c38b0
                   try clear c39
                   try clear c39b0
                   try clear c40
                   try clear q40
                   try clear c41
                   try clear c42
                   try clear c43
                   try clear c43b0
                   try clear c43b1
                   try clear c44
                   try clear c44b0
                   try clear c44b1
                   try clear c45
                   try clear c45b0
                   try clear p46
                   try clear q46
                   try clear hx46
                   try clear hf46
                   try clear hx193_0
                   try clear hx196_0
                   try clear hx198_0
                   try clear hx199_0
                   try clear hx30_0
                   try clear hx46_0
                   try clear p1
                   try clear p19
                   try clear p193
                   try clear p196
                   try clear p198
                   try clear p199
                   try clear p2
                   try clear p3
                   try clear p30
                   try clear p46
                   try clear p6
                   try clear q1
                   try clear q19
                   try clear q193
                   try clear q196
                   try clear q198
                   try clear q199
                   try clear q3
                   try clear q30
                   try clear q46
                   obtain ⟨x13_4, x81_4, rfl, HA, HK4, HO_1, HO_6, HO_8, HO_13, HO_79, HB⟩ := hrel
                   have hl13_4 := (Kd.R_reads' HO_13.out).1
                   rw [hl13_4] at HO_13
                   (try simp only [hl13_4])
                   (try simp only [hl13_4] at HO_1)
                   (try simp only [hl13_4] at HO_6)
                   (try simp only [hl13_4] at HO_8)
                   (try simp only [hl13_4] at HO_79)
                   cases gk with
                  |zero => exact absurd HA.out (by simp [impl_NullVector.l2])
                  |succ k4 =>
                    have H := HA.out
                    clear HA
                    simp only [impl_NullVector.l2] at H
                    by_cases c52 : x81_4 < (t187.length : Int)
                    ·rw [if_pos c52] at H
                     have c52b0 : decide (x81_4 < (t187.length : Int)) = true := decide_eq_true c52
                     clear c52
                     by_cases c53 : 0 ≤ x81_4
                     ·rw [if_pos c53] at H
                      have c53b0 : decide (0 ≤ x81_4) = true := decide_eq_true c53
                      clear c53
                      by_cases c54 : x81_4 < (t187.length : Int)
                      ·rw [if_pos c54] at H
                       have c54b0 : decide (x81_4 < (t187.length : Int)) = true := decide_eq_true c54
                       clear c54
                       replace H := Option.bind_eq_some_iff.mp H
                       obtain ⟨t205, A550, H⟩ := H
                       replace H : (if 0 ≤ x66_3 then (if x66_3 < ((rd_L1 t187 x81_4).length : Int) then (if 0 ≤ t205 then (if t205 < ((rd_L1 t187 x81_4).length : Int) then (if (rd (rd_L1 t187 x81_4) t205) = 0 then (none) else (if t205 < (x13_4.length : Int) then (impl_NullVector.l2 k4 x1_3 (l1.length : Int) t187 x7_2 x8_2 x66_3 (x13_4.set (t205 : Int).toNat (wrap64 ((wrap64 (-(rd (rd_L1 t187 x81_4) x66_3))) * (wrap64 (Int.tdiv x7_2 (rd (rd_L1 t187 x81_4) t205)))))) (l1.length : Int) x66_3 t187 (t187.length : Int) (wrap64 (x81_4 + 1))) else (none))) else (none)) else (none)) else (none)) else (none)) = some r := H
                       have A55 := Aside0.mk A550
                       clear A550
                       by_cases c56 : 0 ≤ x66_3
                       ·rw [if_pos c56] at H
                        have c56b0 : decide (0 ≤ x66_3) = true := decide_eq_true c56
                        clear c56
                        by_cases c57 : x66_3 < ((rd_L1 t187 x81_4).length : Int)
                        ·rw [if_pos c57] at H
                         have c57b0 : decide (x66_3 < ((rd_L1 t187 x81_4).length : Int)) = true := decide_eq_true c57
                         clear c57
                         by_cases c58 : 0 ≤ t205
                         ·rw [if_pos c58] at H
                          have c58b0 : decide (0 ≤ t205) = true := decide_eq_true c58
                          clear c58
                          by_cases c59 : t205 < ((rd_L1 t187 x81_4).length : Int)
                          ·rw [if_pos c59] at H
                           have c59b0 : decide (t205 < ((rd_L1 t187 x81_4).length : Int)) = true := decide_eq_true c59
                           clear c59
                           by_cases c60 : (rd (rd_L1 t187 x81_4) t205) = 0
                           ·rw [if_pos c60] at H
                            exact absurd H (by simp)
                           ·rw [if_neg c60] at H
                            have c60b0 : ((rd (rd_L1 t187 x81_4) t205) == 0) = false := beq_eq_false_iff_ne.mpr c60
                            have c60b1 : ((rd (rd_L1 t187 x81_4) t205) != 0) = true := bne_iff_ne.mpr c60
                            by_cases c61 : t205 < (x13_4.length : Int)
                            ·rw [if_pos c61] at H
                             have c61b0 : decide (t205 < (x13_4.length : Int)) = true := decide_eq_true c61
                             clear c61
                             obtain ⟨y208, hy208⟩ : ∃ y_ : List Int, y_ = (x13_4.set (t205 : Int).toNat (wrap64 ((wrap64 (-(rd (rd_L1 t187 x81_4) x66_3))) * (wrap64 (Int.tdiv x7_2 (rd (rd_L1 t187 x81_4) t205)))))) := ⟨_, rfl⟩
                             replace H : (impl_NullVector.l2 k4 x1_3 (l1.length : Int) t187 x7_2 x8_2 x66_3 y208 (l1.length : Int) x66_3 t187 (t187.length : Int) (wrap64 (x81_4 + 1))) = some r := by first|(rw [hy208];with_reducible exact H)|(have H2_ := (Option.bind_some _ _).symm.trans H;rw [hy208];with_reducible exact H2_)|(have H2_ := (Option.bind_some _ _).symm.trans H;with_reducible exact H2_)|with_reducible exact H|(rw [hy208];exact H)|exact H
                             have Ny208 := Aside0.mk hy208
                             clear hy208
                             have H' := Aside0.mk H
                             clear H
                             have p204 : 0 ≤ (x81_4 : Int) := of_decide_eq_true (by first|(with_reducible assumption)|assumption)
                             have q204 : x81_4 < (t187.length : Int) := of_decide_eq_true (by first|(with_reducible assumption)|assumption)
                             obtain ⟨ad204, A204_0, c204_0, e204, hx204_0, hl204_0, hi204_0⟩ := at_L1 (Kd.N_reads' HO_79.out).2.2 x81_4 p204 q204
                             cases e204
                             obtain ⟨ce204, hce204, hMe204, hcc204⟩ := Kd.N_get HO_79.out [] x81_4 p204 (by first|exact q204|exact of_decide_eq_true (by first|(with_reducible assumption)|assumption)|(have e_ := (Kd.N_reads' HO_79.out).1;omega))
                             obtain ⟨ua204_0, uc204_0, rfl, ul204_0, ge204_0⟩ := Kd.FK_slice_open hMe204
                             have hv204_0 := hcc204 0 _ rfl
                             rw [Nat.add_zero, show ((Kd.slice 3 (Kd.int .i64))).sz = 1 from rfl, Nat.mul_one] at hv204_0
                             replace hv204_0 := Option.some.inj (hv204_0.symm.trans hx204_0)
                             injection hv204_0 with hva_ hvn_ hvc_
                             rw [hva_] at ge204_0
                             rw [hvc_] at ul204_0
                             have HL204_0 := Aside0.mk (show Kd.V (Kd.int .i64) 3 _ w.heap.size _ _ (rd_L1 t187 x81_4) from Kd.V_mk ul204_0 ge204_0)
                             clear hva_ hvn_ hvc_ ge204_0 ul204_0
                             clear hcc204 hce204
                             have HR204_0 := Aside0.mk hi204_0
                             have HC204_0 := Aside0.mk hl204_0
                             clear hi204_0 hl204_0
                             replace p204 := eq_true p204
                             replace q204 := eq_true q204
                             try go_wp2_with (first|((with_reducible refine gate_callee (f := 59) rfl ?_);refine goesL_ (some 86) rfl rfl Try.func59 (by kernel_rfl) rfl #[.slice A204_0 (rd_L1 t187 x81_4).length c204_0] rfl (by (try simp only [List.map_toArray, List.map_cons, List.map_nil]);first|done|rfl|(simp only [List.length_drop, List.length_take];rfl)) ?_;(with_reducible refine (impl_lead.calls k4 _ _ (rd_L1 t187 x81_4) t205 _ ?side1 ?side2 A55.out).mono ?_);(case side1 => repeat (first|exact (by repeat (first|(with_reducible exact HR204_0.out)|(with_reducible refine Kd.C_alloc ?_ _)|(with_reducible refine Kd.C_drewN ?_ _)|(with_reducible refine Kd.C_drew ?_)|exact HR204_0.out))|(with_reducible refine Kd.C_alloc ?_ _)|(with_reducible refine Kd.C_drewN ?_ _)|(with_reducible refine Kd.C_drew ?_)));(case side2 => exact HC204_0.out);rintro e w' ⟨rfl, ⟨nd, rfl⟩⟩;refine ⟨_, rfl, ?_⟩;(try (rw [drewN_self wr];generalize hq_ : World.drewN wr _ = wr;have n0_ : Aside0 (Kd.V (Kd.int .i64) 3 wr w.heap.size (fun k_ => (P1_ k_ ∨ w.heap.size ≤ k_) ∧ some k_ ≠ (.slice (some ⟨go46, 0, none⟩) x13_4.length co46 : Value).ownBlock ∧ some k_ ≠ (.slice (some ad204) t187.length co23 : Value).ownBlock ∧ some k_ ≠ (.slice (some ad199) x8_2.length co47 : Value).ownBlock) (.slice A204_0 (rd_L1 t187 x81_4).length c204_0) (rd_L1 t187 x81_4)) := ⟨by rw [← hq_];exact (by (with_reducible repeat (first|apply Kd.V_alloc|apply Kd.V_drewN|apply Kd.V_drew));exact Kd.V_mono HL204_0.out (fun _ hk => by first|exact ⟨hk.1.1, ⟨hk.1.2.2, ⟨hk.2, hk.1.2.1⟩⟩⟩|((repeat' apply And.intro) <;> first|exact hk.1|exact hk.2|exact hk.1.1|exact hk.1.2|exact hk.2.1|exact hk.2.2|exact hk.1.1.1|exact hk.1.1.2|exact hk.1.2.1|exact hk.1.2.2|exact hk.2.1.1|exact hk.2.1.2|exact hk.2.2.1|exact hk.2.2.2|exact hk.2.2.2.1|exact hk.2.2.2.2|exact hk.1.2.2.1|exact hk.1.2.2.2|exact hk.1.2.2.2.1|exact hk.1.2.2.2.2)))⟩;have n1_ : Aside0 (Kd.V (Kd.int .i64) 3 wr w.heap.size (fun k_ => (P1_ k_ ∨ w.heap.size ≤ k_) ∧ some k_ ≠ (.slice (some ⟨go46, 0, none⟩) x13_4.length co46 : Value).ownBlock ∧ some k_ ≠ (.slice (some ad204) t187.length co23 : Value).ownBlock ∧ some k_ ≠ (.slice (some ad204) t187.length co23 : Value).ownBlock ∧ some k_ ≠ (.slice (some ad199) x8_2.length co47 : Value).ownBlock) (.slice A1 x1_3.length c1) x1_3) := ⟨by rw [← hq_];exact (by (with_reducible repeat (first|apply Kd.V_alloc|apply Kd.V_drewN|apply Kd.V_drew));exact Kd.V_mono HO_1.out (fun _ hk => by first|exact ⟨hk.1, ⟨hk.2.2.2.1, ⟨hk.2.1, ⟨hk.2.2.2.2, hk.2.2.1⟩⟩⟩⟩|((repeat' apply And.intro) <;> first|exact hk.1|exact hk.2|exact hk.1.1|exact hk.1.2|exact hk.2.1|exact hk.2.2|exact hk.1.1.1|exact hk.1.1.2|exact hk.1.2.1|exact hk.1.2.2|exact hk.2.1.1|exact hk.2.1.2|exact hk.2.2.1|exact hk.2.2.2|exact hk.2.2.2.1|exact hk.2.2.2.2|exact hk.1.2.2.1|exact hk.1.2.2.2|exact hk.1.2.2.2.1|exact hk.1.2.2.2.2)))⟩;have n2_ : Aside0 (Kd.R (Kd.int .i64) 3 wr w.heap.size (fun k_ => (w.heap.size ≤ k_)) (.slice (some ⟨go46, 0, none⟩) x13_4.length co46) x13_4) := ⟨by rw [← hq_];exact (by (with_reducible repeat (first|apply Kd.R_alloc|apply Kd.R_drewN|apply Kd.R_drew));exact HO_13.out)⟩;have n3_ : Aside0 (Kd.N (Kd.slice 3 (Kd.int .i64)) 23 wr w.heap.size (fun k_ => (P1_ k_ ∨ w.heap.size ≤ k_) ∧ some k_ ≠ (.slice (some ⟨go46, 0, none⟩) x13_4.length co46 : Value).ownBlock ∧ some k_ ≠ (.slice (some ad199) x8_2.length co47 : Value).ownBlock) (.slice (some ad204) t187.length co23) t187) := ⟨by rw [← hq_];exact (by (with_reducible repeat (first|apply Kd.N_alloc|apply Kd.N_drewN|apply Kd.N_drew));exact Kd.N_mono HO_6.out (fun _ hk => by first|exact ⟨hk.1, ⟨hk.2.2, hk.2.1⟩⟩|((repeat' apply And.intro) <;> first|exact hk.1|exact hk.2|exact hk.1.1|exact hk.1.2|exact hk.2.1|exact hk.2.2|exact hk.1.1.1|exact hk.1.1.2|exact hk.1.2.1|exact hk.1.2.2|exact hk.2.1.1|exact hk.2.1.2|exact hk.2.2.1|exact hk.2.2.2|exact hk.2.2.2.1|exact hk.2.2.2.2|exact hk.1.2.2.1|exact hk.1.2.2.2|exact hk.1.2.2.2.1|exact hk.1.2.2.2.2)))⟩;have n4_ : Aside0 (Kd.N (Kd.slice 3 (Kd.int .i64)) 23 wr w.heap.size (fun k_ => (P1_ k_ ∨ w.heap.size ≤ k_) ∧ some k_ ≠ (.slice (some ⟨go46, 0, none⟩) x13_4.length co46 : Value).ownBlock ∧ some k_ ≠ (.slice (some ad199) x8_2.length co47 : Value).ownBlock) (.slice (some ad204) t187.length co23) t187) := ⟨by rw [← hq_];exact (by (with_reducible repeat (first|apply Kd.N_alloc|apply Kd.N_drewN|apply Kd.N_drew));exact Kd.N_mono HO_79.out (fun _ hk => by first|exact ⟨hk.1, ⟨hk.2.2, hk.2.1⟩⟩|((repeat' apply And.intro) <;> first|exact hk.1|exact hk.2|exact hk.1.1|exact hk.1.2|exact hk.2.1|exact hk.2.2|exact hk.1.1.1|exact hk.1.1.2|exact hk.1.2.1|exact hk.1.2.2|exact hk.2.1.1|exact hk.2.1.2|exact hk.2.2.1|exact hk.2.2.2|exact hk.2.2.2.1|exact hk.2.2.2.2|exact hk.1.2.2.1|exact hk.1.2.2.2|exact hk.1.2.2.2.1|exact hk.1.2.2.2.2)))⟩;have n5_ : Aside0 (Kd.R Kd.bool 4 wr w.heap.size (fun k_ => (w.heap.size ≤ k_)) (.slice (some ad199) x8_2.length co47) x8_2) := ⟨by rw [← hq_];exact (by (with_reducible repeat (first|apply Kd.R_alloc|apply Kd.R_drewN|apply Kd.R_drew));exact HO_8.out)⟩;have n6_ : Aside0 (Below w.heap.size w wr) := ⟨by rw [← hq_];exact (by repeat first|(with_reducible first|exact HB.out|apply below_alloc|apply pw_below_drewN|apply below_drew1)|exact HB.out)⟩;have n7_ : Aside0 (Kd.C (Kd.int .i64) wr A204_0 (rd_L1 t187 x81_4).length (rd_L1 t187 x81_4)) := ⟨by rw [← hq_];exact (by repeat (first|(with_reducible exact HR204_0.out)|(with_reducible refine Kd.C_alloc ?_ _)|(with_reducible refine Kd.C_drewN ?_ _)|(with_reducible refine Kd.C_drew ?_)|exact HR204_0.out))⟩;clear HL204_0 HO_1 HO_13 HO_6 HO_79 HO_8 HB HR204_0 hq_;have HL204_0 := n0_;have HO_1 := n1_;have HO_13 := n2_;have HO_6 := n3_;have HO_79 := n4_;have HO_8 := n5_;have HB := n6_;have HR204_0 := n7_;clear n0_ n1_ n2_ n3_ n4_ n5_ n6_ n7_))))
                             have n0_ := Aside0.mk (Kd.V_drew HO_1.out)
                             have n1_ := Aside0.mk (Kd.N_drew HO_6.out)
                             have n2_ := Aside0.mk (Kd.R_drew HO_8.out)
                             have n3_ := Aside0.mk (Kd.R_drew HO_13.out)
                             have n4_ := Aside0.mk (Kd.N_drew HO_79.out)
                             have n5_ := Aside0.mk (Kd.V_drew HL204_0.out)
                             have n6_ := Aside0.mk (Kd.C_drew HR204_0.out)
                             have n7_ := Aside0.mk (below_drew1 HB.out)
                             clear HO_1
                             clear HO_6
                             clear HO_8
                             clear HO_13
                             clear HO_79
                             clear HL204_0
                             clear HR204_0
                             clear HB
                             have HO_1 := n0_
                             have HO_6 := n1_
                             have HO_8 := n2_
                             have HO_13 := n3_
                             have HO_79 := n4_
                             have HL204_0 := n5_
                             have HR204_0 := n6_
                             have HB := n7_
                             clear n0_ n1_ n2_ n3_ n4_ n5_ n6_ n7_
                             have p206 : 0 ≤ (x66_3 : Int) := of_decide_eq_true (by first|(with_reducible assumption)|assumption)
                             have q206 : x66_3 < ((rd_L1 t187 x81_4).length : Int) := of_decide_eq_true (by first|(with_reducible assumption)|assumption)
                             obtain ⟨ad206, e206, hx206_0⟩ := Kd.at_int (by repeat (first|(with_reducible exact HR204_0.out)|(with_reducible refine Kd.C_alloc ?_ _)|(with_reducible refine Kd.C_drewN ?_ _)|(with_reducible refine Kd.C_drew ?_)|exact HR204_0.out)) x66_3 p206 q206
                             cases e206
                             replace p206 := eq_true p206
                             replace q206 := eq_true q206
                             have p207 : 0 ≤ (t205 : Int) := of_decide_eq_true (by first|(with_reducible assumption)|assumption)
                             have q207 : t205 < ((rd_L1 t187 x81_4).length : Int) := of_decide_eq_true (by first|(with_reducible assumption)|assumption)
                             obtain ⟨ad207, e207, hx207_0⟩ := Kd.at_int (by repeat (first|(with_reducible exact HR204_0.out)|(with_reducible refine Kd.C_alloc ?_ _)|(with_reducible refine Kd.C_drewN ?_ _)|(with_reducible refine Kd.C_drew ?_)|exact HR204_0.out)) t205 p207 q207
                             obtain rfl : ad206 = ad207 := (by injection e207)
                             replace p207 := eq_true p207
                             replace q207 := eq_true q207
                             have p62 : 0 ≤ (t205 : Int) := of_decide_eq_true (by first|(with_reducible assumption)|assumption)
                             have q62 : (t205 : Int) < ((x13_4.length : Int) : Int) := of_decide_eq_true (by first|(with_reducible assumption)|assumption)
                             obtain ⟨hx62_0, hf62_0⟩ := Kd.R_celln 0 HO_13.out (t205 : Int) p62 q62
                             replace p62 := eq_true p62
                             replace q62 := eq_true q62
                             have HP64 := Kd.R_putn HO_13.out (t205 : Int) (wrap64 ((wrap64 (-(rd (rd_L1 t187 x81_4) x66_3))) * (wrap64 (Int.tdiv x7_2 (rd (rd_L1 t187 x81_4) t205)))))
                             rw [← Ny208.out] at HP64
                             have HQ64 := Aside0.mk HP64
                             clear HP64
                             refine start_ (n := 16) (S := fun w' => w'.cell? (ad206.add (x66_3).toNat) = some (.int .i64 (rd (rd_L1 t187 x81_4) x66_3)) ∧ w'.cell? (ad206.add (t205).toNat) = some (.int .i64 (rd (rd_L1 t187 x81_4) t205))) (ds := [15]) #[false, false, false, false, false, false, false, false, false, false, false, false, false, false, false, false] (by kernel_rfl) rfl rfl ⟨hx206_0, hx207_0⟩ (fun hHeld => ?_);refine with_tabW impl_NullVector.tab24 impl_NullVector.bits24 (fun HT_ HW_ => ?_)
                             generalize wr.drew = w63 at HO_1 HO_6 HO_8 HO_13 HO_79 HL204_0 HR204_0 HB HQ64 hf62_0 hx206_0 hx207_0 hx62_0 hHeld ⊢
                             refine pure_ (i := 0) (N := some 87) (v := ?_) (a' := ?_) #[true, false, false, false, false, false, false, false, false, false, false, false, false, false, false, false] rfl rfl (any_of HT_.out (by kernel_rfl)) (fun _ _ _ h => h) (Or.inl ⟨by rfl, ?_⟩) ?_ ?_
                             rotate_left
                             ·intro w'
                              go_simp
                              with_reducible rfl
                             rotate_left
                             ·simp only [Act.put, List.setIfInBounds_toArray, List.set_cons_zero, List.set_cons_succ, i64_w, i32_w]
                              rfl
                             refine pure_ (i := 1) (N := some 88) (v := ?_) (a' := ?_) #[true, true, false, false, false, false, false, false, false, false, false, false, false, false, false, false] rfl rfl (any_of HT_.out (by kernel_rfl)) (fun _ _ _ h => h) (Or.inl ⟨by rfl, ?_⟩) ?_ ?_
                             rotate_left
                             ·intro w'
                              go_simp
                              with_reducible rfl
                             rotate_left
                             ·simp only [Act.put, List.setIfInBounds_toArray, List.set_cons_zero, List.set_cons_succ, i64_w, i32_w]
                              rfl
                             refine pure_ (i := 2) (N := some 89) (v := ?_) (a' := ?_) #[true, true, true, false, false, false, false, false, false, false, false, false, false, false, false, false] rfl rfl (any_of HT_.out (by kernel_rfl)) (fun _ _ _ h => h) (Or.inl ⟨by rfl, ?_⟩) ?_ ?_
                             rotate_left
                             ·intro w'
                              go_simp
                              with_reducible rfl
                             rotate_left
                             ·simp only [Act.put, List.setIfInBounds_toArray, List.set_cons_zero, List.set_cons_succ, i64_w, i32_w]
                              rfl
                             refine pure_ (i := 3) (N := some 90) (v := ?_) (a' := ?_) #[true, true, true, true, false, false, false, false, false, false, false, false, false, false, false, false] rfl rfl (any_of HT_.out (by kernel_rfl)) (fun _ _ _ h => h) (Or.inl ⟨by rfl, ?_⟩) ?_ ?_
                             rotate_left
                             ·intro w'
                              go_simp
                              with_reducible rfl
                             rotate_left
                             ·simp only [Act.put, List.setIfInBounds_toArray, List.set_cons_zero, List.set_cons_succ, i64_w, i32_w]
                              rfl
                             refine pure_ (i := 4) (N := some 91) (v := ?_) (a' := ?_) #[true, true, true, true, true, false, false, false, false, false, false, false, false, false, false, false] rfl rfl (any_of HT_.out (by kernel_rfl)) (fun _ _ _ h => h) (Or.inl ⟨by rfl, ?_⟩) ?_ ?_
                             rotate_left
                             ·intro w'
                              go_simp
                              with_reducible rfl
                             rotate_left
                             ·simp only [Act.put, List.setIfInBounds_toArray, List.set_cons_zero, List.set_cons_succ, i64_w, i32_w]
                              rfl
                             refine pure_ (i := 7) (N := some 94) (v := ?_) (a' := ?_) #[true, true, true, true, true, false, false, true, false, false, false, false, false, false, false, false] rfl rfl (any_of HT_.out (by kernel_rfl)) (fun _ _ _ h => h) (Or.inl ⟨by rfl, ?_⟩) ?_ ?_
                             rotate_left
                             ·intro w'
                              go_simp
                              with_reducible rfl
                             rotate_left
                             ·simp only [Act.put, List.setIfInBounds_toArray, List.set_cons_zero, List.set_cons_succ, i64_w, i32_w]
                              rfl
                             refine pure_ (i := 8) (N := some 95) (v := ?_) (a' := ?_) #[true, true, true, true, true, false, false, true, true, false, false, false, false, false, false, false] rfl rfl (any_of HT_.out (by kernel_rfl)) (fun _ _ _ h => h) (Or.inl ⟨by rfl, ?_⟩) ?_ ?_
                             rotate_left
                             ·intro w'
                              go_simp
                              with_reducible rfl
                             rotate_left
                             ·simp only [Act.put, List.setIfInBounds_toArray, List.set_cons_zero, List.set_cons_succ, i64_w, i32_w]
                              rfl
                             refine pure_ (i := 9) (N := some 96) (v := ?_) (a' := ?_) #[true, true, true, true, true, false, false, true, true, true, false, false, false, false, false, false] rfl rfl (any_of HT_.out (by kernel_rfl)) (fun _ _ _ h => h) (Or.inl ⟨by rfl, ?_⟩) ?_ ?_
                             rotate_left
                             ·intro w'
                              go_simp
                              with_reducible rfl
                             rotate_left
                             ·simp only [Act.put, List.setIfInBounds_toArray, List.set_cons_zero, List.set_cons_succ, i64_w, i32_w]
                              rfl
                             refine pure_ (i := 10) (N := some 97) (v := ?_) (a' := ?_) #[true, true, true, true, true, false, false, true, true, true, true, false, false, false, false, false] rfl rfl (any_of HT_.out (by kernel_rfl)) (fun _ _ _ h => h) (Or.inl ⟨by rfl, ?_⟩) ?_ ?_
                             rotate_left
                             ·intro w'
                              go_simp
                              with_reducible rfl
                             rotate_left
                             ·simp only [Act.put, List.setIfInBounds_toArray, List.set_cons_zero, List.set_cons_succ, i64_w, i32_w]
                              rfl
                             refine take_ (i := 5) (N := some 92) (v := ?_) (a' := ?_) #[true, true, true, true, true, true, false, true, true, true, true, false, false, false, false, false] rfl rfl (take_ofW HT_.out HW_.out (by kernel_rfl)) (fun _ _ _ h => h) (Or.inl ⟨by rfl, ?_⟩) hHeld ?_ ?_
                             rotate_left
                             ·rintro w' ⟨s0, s1⟩
                              go_simp
                              with_reducible rfl
                             rotate_left
                             ·simp only [Act.put, List.setIfInBounds_toArray, List.set_cons_zero, List.set_cons_succ, i64_w, i32_w]
                              rfl
                             refine pure_ (i := 6) (N := some 93) (v := ?_) (a' := ?_) #[true, true, true, true, true, true, true, true, true, true, true, false, false, false, false, false] rfl rfl (any_of HT_.out (by kernel_rfl)) (fun _ _ _ h => h) (Or.inl ⟨by rfl, ?_⟩) ?_ ?_
                             rotate_left
                             ·intro w'
                              go_simp
                              with_reducible rfl
                             rotate_left
                             ·simp only [Act.put, List.setIfInBounds_toArray, List.set_cons_zero, List.set_cons_succ, i64_w, i32_w]
                              rfl
                             refine take_ (i := 11) (N := some 98) (v := ?_) (a' := ?_) #[true, true, true, true, true, true, true, true, true, true, true, true, false, false, false, false] rfl rfl (take_ofW HT_.out HW_.out (by kernel_rfl)) (fun _ _ _ h => h) (Or.inl ⟨by rfl, ?_⟩) hHeld ?_ ?_
                             rotate_left
                             ·rintro w' ⟨s0, s1⟩
                              go_simp
                              with_reducible rfl
                             rotate_left
                             ·simp only [Act.put, List.setIfInBounds_toArray, List.set_cons_zero, List.set_cons_succ, i64_w, i32_w]
                              rfl
                             refine pure_ (i := 12) (N := some 99) (v := ?_) (a' := ?_) #[true, true, true, true, true, true, true, true, true, true, true, true, true, false, false, false] rfl rfl (any_of HT_.out (by kernel_rfl)) (fun _ _ _ h => h) (Or.inl ⟨by rfl, ?_⟩) ?_ ?_
                             rotate_left
                             ·intro w'
                              go_simp
                              with_reducible rfl
                             rotate_left
                             ·simp only [Act.put, List.setIfInBounds_toArray, List.set_cons_zero, List.set_cons_succ, i64_w, i32_w]
                              rfl
                             refine pure_ (i := 13) (N := some 100) (v := ?_) (a' := ?_) #[true, true, true, true, true, true, true, true, true, true, true, true, true, true, false, false] rfl rfl (any_of HT_.out (by kernel_rfl)) (fun _ _ _ h => h) (Or.inl ⟨by rfl, ?_⟩) ?_ ?_
                             rotate_left
                             ·intro w'
                              go_simp
                              with_reducible rfl
                             rotate_left
                             ·simp only [Act.put, List.setIfInBounds_toArray, List.set_cons_zero, List.set_cons_succ, i64_w, i32_w]
                              rfl
                             refine pure_ (i := 14) (N := some 101) (v := ?_) (a' := ?_) #[true, true, true, true, true, true, true, true, true, true, true, true, true, true, true, false] rfl rfl (any_of HT_.out (by kernel_rfl)) (fun _ _ _ h => h) (Or.inl ⟨by rfl, ?_⟩) ?_ ?_
                             rotate_left
                             ·intro w'
                              go_simp
                              with_reducible rfl
                             rotate_left
                             ·simp only [Act.put, List.setIfInBounds_toArray, List.set_cons_zero, List.set_cons_succ, i64_w, i32_w]
                              rfl
                             refine last_ (i := 15) (N := none) #[true, true, true, true, true, true, true, true, true, true, true, true, true, true, true, true] rfl rfl (one_of HT_.out (by kernel_rfl)) (by decide) (fun K hK => ?_)
                             refine skip_ (w1 := ?_) (by rfl) rfl ?_ ?_
                             rotate_left
                             ·go_simp
                              rfl
                             refine hK.out _ _ ?_
                             clear hK K
                             refine done_ (done_of HT_.out (by kernel_rfl)) ?_
                             try go_wp2
                             (try simp only [← hl13_4])
                             go_roundg k4
                             case measure => have := HJ2.out;have := HK2.out;have := HK3.out;have := HK4.out;omega
                             case rel => exact ⟨(y208), (wrap64 (x81_4 + 1)), (by first|rfl|(simp;done)|(simp [*];done)), H', ⟨by have := HJ2.out;have := HK2.out;have := HK3.out;have := HK4.out;omega⟩, ⟨by (try simp only [hl1_3]);(try simp only [hl13_4]);(with_reducible repeat (first|apply Kd.V_alloc|apply Kd.V_drewN|apply Kd.V_drew));exact Kd.V_mono (Kd.V_far (p := ⟨go46, (t205 : Int).toNat, none⟩) (Kd.V_mono HO_1.out (fun k_ hk => (⟨hk, fun e_ => by rw [e_] at hk;first|exact hk.1 rfl|exact hk.2 rfl|exact hk.1.1 rfl|exact hk.1.2 rfl|exact hk.2.1 rfl|exact hk.2.2 rfl|exact hk.1.2.1 rfl|exact hk.1.2.2 rfl|exact hk.2.2.1 rfl|exact hk.2.2.2 rfl|exact hk.2.2.2.1 rfl|exact hk.2.2.2.2 rfl⟩ : _ ∧ k_ ≠ go46))) (fun _ hk => hk.2) (.int .i64 (wrap64 ((wrap64 (-(rd (rd_L1 t187 x81_4) x66_3))) * (wrap64 (Int.tdiv x7_2 (rd (rd_L1 t187 x81_4) t205))))))) (fun _ hk => by first|exact ⟨hk.1.1, ⟨hk.1.2.1, ⟨hk.1.2.2.1, ⟨hk.1.2.2.2.1, hk.1.2.2.2.2⟩⟩⟩⟩|((repeat' apply And.intro) <;> first|exact hk.1|exact hk.2|exact hk.1.1|exact hk.1.2|exact hk.2.1|exact hk.2.2|exact hk.1.1.1|exact hk.1.1.2|exact hk.1.2.1|exact hk.1.2.2|exact hk.2.1.1|exact hk.2.1.2|exact hk.2.2.1|exact hk.2.2.2|exact hk.2.2.2.1|exact hk.2.2.2.2|exact hk.1.2.2.1|exact hk.1.2.2.2|exact hk.1.2.2.2.1|exact hk.1.2.2.2.2))⟩, ⟨by (try simp only [hl1_3]);(try simp only [hl13_4]);(with_reducible repeat (first|apply Kd.N_alloc|apply Kd.N_drewN|apply Kd.N_drew));exact Kd.N_mono (Kd.N_far (p := ⟨go46, (t205 : Int).toNat, none⟩) (Kd.N_mono HO_6.out (fun k_ hk => (⟨hk, fun e_ => by rw [e_] at hk;first|exact hk.1 rfl|exact hk.2 rfl|exact hk.1.1 rfl|exact hk.1.2 rfl|exact hk.2.1 rfl|exact hk.2.2 rfl|exact hk.1.2.1 rfl|exact hk.1.2.2 rfl|exact hk.2.2.1 rfl|exact hk.2.2.2 rfl|exact hk.2.2.2.1 rfl|exact hk.2.2.2.2 rfl⟩ : _ ∧ k_ ≠ go46))) (fun _ hk => hk.2) (.int .i64 (wrap64 ((wrap64 (-(rd (rd_L1 t187 x81_4) x66_3))) * (wrap64 (Int.tdiv x7_2 (rd (rd_L1 t187 x81_4) t205))))))) (fun _ hk => by first|exact ⟨hk.1.1, ⟨hk.1.2.1, hk.1.2.2⟩⟩|((repeat' apply And.intro) <;> first|exact hk.1|exact hk.2|exact hk.1.1|exact hk.1.2|exact hk.2.1|exact hk.2.2|exact hk.1.1.1|exact hk.1.1.2|exact hk.1.2.1|exact hk.1.2.2|exact hk.2.1.1|exact hk.2.1.2|exact hk.2.2.1|exact hk.2.2.2|exact hk.2.2.2.1|exact hk.2.2.2.2|exact hk.1.2.2.1|exact hk.1.2.2.2|exact hk.1.2.2.2.1|exact hk.1.2.2.2.2))⟩, ⟨by (try simp only [hl1_3]);(try simp only [hl13_4]);(with_reducible repeat (first|apply Kd.R_alloc|apply Kd.R_drewN|apply Kd.R_drew));exact Kd.R_mono (Kd.R_far (p := ⟨go46, (t205 : Int).toNat, none⟩) (Kd.R_types HO_8.out (Kd.R_typed HO_13.out go46 rfl).choose_spec (by decide)) (fun _ hk => hk.2) (.int .i64 (wrap64 ((wrap64 (-(rd (rd_L1 t187 x81_4) x66_3))) * (wrap64 (Int.tdiv x7_2 (rd (rd_L1 t187 x81_4) t205))))))) (fun _ hk => hk.1)⟩, ⟨by (try simp only [hl1_3]);(try simp only [hl13_4]);(with_reducible repeat (first|apply Kd.R_alloc|apply Kd.R_drewN|apply Kd.R_drew));exact HQ64.out⟩, ⟨by (try simp only [hl1_3]);(try simp only [hl13_4]);(with_reducible repeat (first|apply Kd.N_alloc|apply Kd.N_drewN|apply Kd.N_drew));exact Kd.N_mono (Kd.N_far (p := ⟨go46, (t205 : Int).toNat, none⟩) (Kd.N_mono HO_79.out (fun k_ hk => (⟨hk, fun e_ => by rw [e_] at hk;first|exact hk.1 rfl|exact hk.2 rfl|exact hk.1.1 rfl|exact hk.1.2 rfl|exact hk.2.1 rfl|exact hk.2.2 rfl|exact hk.1.2.1 rfl|exact hk.1.2.2 rfl|exact hk.2.2.1 rfl|exact hk.2.2.2 rfl|exact hk.2.2.2.1 rfl|exact hk.2.2.2.2 rfl⟩ : _ ∧ k_ ≠ go46))) (fun _ hk => hk.2) (.int .i64 (wrap64 ((wrap64 (-(rd (rd_L1 t187 x81_4) x66_3))) * (wrap64 (Int.tdiv x7_2 (rd (rd_L1 t187 x81_4) t205))))))) (fun _ hk => by first|exact ⟨hk.1.1, ⟨hk.1.2.1, hk.1.2.2⟩⟩|((repeat' apply And.intro) <;> first|exact hk.1|exact hk.2|exact hk.1.1|exact hk.1.2|exact hk.2.1|exact hk.2.2|exact hk.1.1.1|exact hk.1.1.2|exact hk.1.2.1|exact hk.1.2.2|exact hk.2.1.1|exact hk.2.1.2|exact hk.2.2.1|exact hk.2.2.2|exact hk.2.2.2.1|exact hk.2.2.2.2|exact hk.1.2.2.1|exact hk.1.2.2.2|exact hk.1.2.2.2.1|exact hk.1.2.2.2.2))⟩, ⟨by repeat (first|(with_reducible first|exact HB.out|apply below_alloc|apply pw_below_drewN|apply below_drew1|refine below_set ?_ GB46.out)|exact HB.out)⟩⟩
                            ·rw [if_neg c61] at H
                             exact absurd H (by simp)
                          ·rw [if_neg c59] at H
                           exact absurd H (by simp)
                         ·rw [if_neg c58] at H
                          exact absurd H (by simp)
                        ·rw [if_neg c57] at H
                         exact absurd H (by simp)
                       ·rw [if_neg c56] at H
                        exact absurd H (by simp)
                      ·rw [if_neg c54] at H
                       exact absurd H (by simp)
                     ·rw [if_neg c53] at H
                      exact absurd H (by simp)
                    ·rw [if_neg c52] at H
                     have c52b0 : decide (x81_4 < (t187.length : Int)) = false := decide_eq_false c52
                     clear c52
                     replace H := Option.bind_eq_some_iff.mp H
                     obtain ⟨t209, A650, H⟩ := H
                     replace H : (if t209 = 0 then (impl_NullVector.l1 k4 x1_3 (l1.length : Int) t187 x7_2 x8_2 (l1.length : Int) (wrap64 (x66_3 + 1))) else (some x13_4)) = some r := H
                     have A65 := Aside0.mk A650
                     clear A650
                     by_cases c66 : t209 = 0
                     ·rw [if_pos c66] at H
                      have c66b0 : (t209 == 0) = true := beq_iff_eq.mpr c66
                      have c66b1 : (t209 != 0) = false := bne_eq_false_iff_eq.mpr c66
                      clear c66
                      have H' := Aside0.mk H
                      clear H
                      go_wp2_with (first|((with_reducible refine gate_callee (f := 55) rfl ?_);refine goesL_ (some 105) rfl rfl Try.func55 (by kernel_rfl) rfl #[.slice (some ⟨go46, 0, none⟩) x13_4.length co46, .slice A1 x1_3.length c1] rfl (by (try simp only [List.map_toArray, List.map_cons, List.map_nil]);first|done|rfl|(simp only [List.length_drop, List.length_take];rfl)) ?_;(with_reducible refine (impl_DotOf.calls k4 _ _ x13_4 _ _ x1_3 t209 _ ?side1 ?side2 ?side3 ?side4 A65.out).mono ?_);(case side1 => repeat (first|exact (Kd.R_reads' HO_13.out).2.2|(with_reducible refine Kd.C_alloc ?_ _)|(with_reducible refine Kd.C_drewN ?_ _)|(with_reducible refine Kd.C_drew ?_)));(case side2 => exact (Kd.R_reads' HO_13.out).2.1);(case side3 => repeat (first|exact (Kd.V_reads' HO_1.out).2.2|(with_reducible refine Kd.C_alloc ?_ _)|(with_reducible refine Kd.C_drewN ?_ _)|(with_reducible refine Kd.C_drew ?_)));(case side4 => exact (Kd.V_reads' HO_1.out).2.1);rintro e w67 ⟨rfl, hb⟩;refine ⟨_, rfl, ?_⟩;have n0_ := Aside0.mk (Kd.V_below (by (with_reducible repeat (first|apply Kd.V_alloc|apply Kd.V_drewN|apply Kd.V_drew));exact HO_1.out) hb);have n1_ := Aside0.mk (Kd.N_below (by (with_reducible repeat (first|apply Kd.N_alloc|apply Kd.N_drewN|apply Kd.N_drew));exact HO_6.out) hb);have n2_ := Aside0.mk (Kd.R_below (by (with_reducible repeat (first|apply Kd.R_alloc|apply Kd.R_drewN|apply Kd.R_drew));exact HO_8.out) hb);have n3_ := Aside0.mk (Kd.R_below (by (with_reducible repeat (first|apply Kd.R_alloc|apply Kd.R_drewN|apply Kd.R_drew));exact HO_13.out) hb);have n4_ := Aside0.mk (Kd.N_below (by (with_reducible repeat (first|apply Kd.N_alloc|apply Kd.N_drewN|apply Kd.N_drew));exact HO_79.out) hb);have n5_ := Aside0.mk (below_step (by repeat first|(with_reducible first|exact HB.out|apply below_alloc|apply pw_below_drewN|apply below_drew1)|exact HB.out) hb);clear HO_1;clear HO_6;clear HO_8;clear HO_13;clear HO_79;clear HB;have HO_1 := n0_;have HO_6 := n1_;have HO_8 := n2_;have HO_13 := n3_;have HO_79 := n4_;have HB := n5_;clear n0_ n1_ n2_ n3_ n4_ n5_;(try clear hb);(try clear hb2);(try clear hk);(try clear hi)))
                      (try simp only [← hl1_3, ← hl13_4])
                      go_roundg k4
                      case measure => have := HJ2.out;have := HK2.out;have := HK3.out;have := HK4.out;omega
                      case rel => exact ⟨(x1_3), (wrap64 (x66_3 + 1)), (by first|rfl|(simp;done)|(simp [*];done)), H', ⟨by have := HJ2.out;have := HK2.out;have := HK3.out;have := HK4.out;omega⟩, ⟨by (try simp only [hl1_3]);(try simp only [hl13_4]);(with_reducible repeat (first|apply Kd.V_alloc|apply Kd.V_drewN|apply Kd.V_drew));exact Kd.V_mono HO_1.out (fun _ hk => by first|exact ⟨hk.1, ⟨hk.2.1, hk.2.2.1⟩⟩|((repeat' apply And.intro) <;> first|exact hk.1|exact hk.2|exact hk.1.1|exact hk.1.2|exact hk.2.1|exact hk.2.2|exact hk.1.1.1|exact hk.1.1.2|exact hk.1.2.1|exact hk.1.2.2|exact hk.2.1.1|exact hk.2.1.2|exact hk.2.2.1|exact hk.2.2.2|exact hk.2.2.2.1|exact hk.2.2.2.2|exact hk.1.2.2.1|exact hk.1.2.2.2|exact hk.1.2.2.2.1|exact hk.1.2.2.2.2))⟩, ⟨by (try simp only [hl1_3]);(try simp only [hl13_4]);(with_reducible repeat (first|apply Kd.N_alloc|apply Kd.N_drewN|apply Kd.N_drew));exact Kd.N_mono HO_6.out (fun _ hk => by first|exact ⟨hk.1, hk.2.1⟩|((repeat' apply And.intro) <;> first|exact hk.1|exact hk.2|exact hk.1.1|exact hk.1.2|exact hk.2.1|exact hk.2.2|exact hk.1.1.1|exact hk.1.1.2|exact hk.1.2.1|exact hk.1.2.2|exact hk.2.1.1|exact hk.2.1.2|exact hk.2.2.1|exact hk.2.2.2|exact hk.2.2.2.1|exact hk.2.2.2.2|exact hk.1.2.2.1|exact hk.1.2.2.2|exact hk.1.2.2.2.1|exact hk.1.2.2.2.2))⟩, ⟨by (try simp only [hl1_3]);(try simp only [hl13_4]);(with_reducible repeat (first|apply Kd.R_alloc|apply Kd.R_drewN|apply Kd.R_drew));exact HO_8.out⟩, ⟨by repeat (first|(with_reducible first|exact HB.out|apply below_alloc|apply pw_below_drewN|apply below_drew1)|exact HB.out)⟩⟩
                     ·rw [if_neg c66] at H
                      have c66b0 : (t209 == 0) = false := beq_eq_false_iff_ne.mpr c66
                      have c66b1 : (t209 != 0) = true := bne_iff_ne.mpr c66
                      obtain rfl := Option.some.inj H
                      go_wp2_with (first|((with_reducible refine gate_callee (f := 55) rfl ?_);refine goesL_ (some 105) rfl rfl Try.func55 (by kernel_rfl) rfl #[.slice (some ⟨go46, 0, none⟩) x13_4.length co46, .slice A1 x1_3.length c1] rfl (by (try simp only [List.map_toArray, List.map_cons, List.map_nil]);first|done|rfl|(simp only [List.length_drop, List.length_take];rfl)) ?_;(with_reducible refine (impl_DotOf.calls k4 _ _ x13_4 _ _ x1_3 t209 _ ?side1 ?side2 ?side3 ?side4 A65.out).mono ?_);(case side1 => repeat (first|exact (Kd.R_reads' HO_13.out).2.2|(with_reducible refine Kd.C_alloc ?_ _)|(with_reducible refine Kd.C_drewN ?_ _)|(with_reducible refine Kd.C_drew ?_)));(case side2 => exact (Kd.R_reads' HO_13.out).2.1);(case side3 => repeat (first|exact (Kd.V_reads' HO_1.out).2.2|(with_reducible refine Kd.C_alloc ?_ _)|(with_reducible refine Kd.C_drewN ?_ _)|(with_reducible refine Kd.C_drew ?_)));(case side4 => exact (Kd.V_reads' HO_1.out).2.1);rintro e w68 ⟨rfl, hb⟩;refine ⟨_, rfl, ?_⟩;have n0_ := Aside0.mk (Kd.V_below (by (with_reducible repeat (first|apply Kd.V_alloc|apply Kd.V_drewN|apply Kd.V_drew));exact HO_1.out) hb);have n1_ := Aside0.mk (Kd.N_below (by (with_reducible repeat (first|apply Kd.N_alloc|apply Kd.N_drewN|apply Kd.N_drew));exact HO_6.out) hb);have n2_ := Aside0.mk (Kd.R_below (by (with_reducible repeat (first|apply Kd.R_alloc|apply Kd.R_drewN|apply Kd.R_drew));exact HO_8.out) hb);have n3_ := Aside0.mk (Kd.R_below (by (with_reducible repeat (first|apply Kd.R_alloc|apply Kd.R_drewN|apply Kd.R_drew));exact HO_13.out) hb);have n4_ := Aside0.mk (Kd.N_below (by (with_reducible repeat (first|apply Kd.N_alloc|apply Kd.N_drewN|apply Kd.N_drew));exact HO_79.out) hb);have n5_ := Aside0.mk (below_step (by repeat first|(with_reducible first|exact HB.out|apply below_alloc|apply pw_below_drewN|apply below_drew1)|exact HB.out) hb);clear HO_1;clear HO_6;clear HO_8;clear HO_13;clear HO_79;clear HB;have HO_1 := n0_;have HO_6 := n1_;have HO_8 := n2_;have HO_13 := n3_;have HO_79 := n4_;have HB := n5_;clear n0_ n1_ n2_ n3_ n4_ n5_;(try clear hb);(try clear hb2);(try clear hk);(try clear hi)))
                      go_ret
                      exact ⟨_, by first|rfl|(simp [errW_none, errW_some] <;> rfl)|(simp [*, errW_none, errW_some] <;> rfl), by (with_reducible repeat (first|apply Kd.R_alloc|apply Kd.R_drewN|apply Kd.R_drew));exact HO_13.out, by repeat (first|(with_reducible first|exact HB.out|apply below_alloc|apply pw_below_drewN|apply below_drew1)|exact HB.out)⟩
                 ·rw [if_neg c45] at H
                  exact absurd H (by simp)
                ·rw [if_neg c44] at H
                 exact absurd H (by simp)
               ·rw [if_neg c43] at H
                exact absurd H (by simp)
             ·rw [if_neg c39] at H
              exact absurd H (by simp)
            ·rw [if_neg c38] at H
             exact absurd H (by simp)
           ·rw [if_neg c37] at H
            have c37b0 : decide (x66_3 < (l1.length : Int)) = false := decide_eq_false c37
            have c37b1 : decide (x66_3 < (x1_3.length : Int)) = false := by rw [show (x1_3.length : Int) = (l1.length : Int) by omega];exact c37b0
            clear c37
            obtain rfl := Option.some.inj H
            go_wp2
            go_ret
            exact ⟨_, by first|rfl|(simp [errW_none, errW_some] <;> rfl)|(simp [*, errW_none, errW_some] <;> rfl), by first|exact Kd.R_nil _ _ _ _ _|exact Kd.N_nil _ _ _ _ _|exact Kd.V_nil _ _ _ _ _|exact Kd.Q_nil _ _ _ _ _|exact Kd.S_nil _ _ _ _ _, by repeat (first|(with_reducible first|exact HB.out|apply below_alloc|apply pw_below_drewN|apply below_drew1)|exact HB.out)⟩
     ·rw [if_neg c19] at H
      exact absurd H (by simp)
    ·rw [if_neg c18] at H
     exact absurd H (by simp)
end Go.Proofs.Ytojkepidkmkmpaa.PFnExactNullVector
end
