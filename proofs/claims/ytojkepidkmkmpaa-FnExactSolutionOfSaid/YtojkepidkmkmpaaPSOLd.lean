/-
  Goes on where the text before it ends.
  Conditions: none beside the given statement's own.
-/
import Derived.Test.YtojkepidkmkmpaaPSOLc
set_option linter.unusedVariables false
set_option linter.unusedSimpArgs false
section
namespace Go.Proofs.Ytojkepidkmkmpaa.PFnExactSolutionOf
open Go.RowKit Go.Proofs.YtojkepidkmkmpaaW.PrintWords Go.Proofs.YtojkepidkmkmpaaW.PrintLast Go.Proofs.YtojkepidkmkmpaaW.PrintMore
attribute [local go_sem] max2_int min2_int max_two min_two max_three min_three max_four min_four
set_option linter.unusedVariables false
set_option linter.unusedSimpArgs false
mutual
def spec_l5Reduce.l0 : Nat → List (List Int) → Int → List (List Int) → Int → Option ((List (List Int)))
 | 0, _, _, _, _ => none
 | k + 1, x0, x1, x5, x6 => if x6 < (x0.length : Int) then (if 0 ≤ x6 then ((spec_l5Tidy.f k (rd_L1 x0 x6)).bind fun t235 => (if x5.length < 5864062014805 then (spec_l5Reduce.l0 k x0 x1 (x5 ++ [t235]) (wrap64 (x6 + 1))) else (none))) else (none)) else (spec_l5Reduce.l1 k x1 x5 0 0)
def spec_l5Reduce.l1 : Nat → Int → List (List Int) → Int → Int → Option ((List (List Int)))
 | 0, _, _, _, _ => none
 | k + 1, x1, x5, x7, x8 => if x8 < x1 then (spec_l5Reduce.l2 k x1 x5 x7 x8 x7) else (some x5)
def spec_l5Reduce.j3 : Nat → Int → List (List Int) → Int → Int → Int → Option ((List (List Int)))
 | 0, _, _, _, _, _ => none
 | k + 1, x1, x5, x7, x8, x9 => if x9 = (x5.length : Int) then (spec_l5Reduce.l1 k x1 x5 x7 (wrap64 (x8 + 1))) else (if 0 ≤ x9 then (if x9 < (x5.length : Int) then (if 0 ≤ x7 then (if x7 < (x5.length : Int) then ((spec_l5Tidy.f k (rd_L1 x5 x9)).bind fun t246 => (spec_l5Reduce.l3 k x1 ((x5.set (x9 : Int).toNat (rd_L1 x5 x7)).set (x7 : Int).toNat t246) x7 x8 0)) else (none)) else (none)) else (none)) else (none))
def spec_l5Reduce.l3 : Nat → Int → List (List Int) → Int → Int → Int → Option ((List (List Int)))
 | 0, _, _, _, _, _ => none
 | k + 1, x1, x5, x7, x8, x11 => if x11 < (x5.length : Int) then (if x11 = x7 then (spec_l5Reduce.l3 k x1 x5 x7 x8 (wrap64 (x11 + 1))) else (if 0 ≤ x11 then (if 0 ≤ x8 then (if x8 < ((rd_L1 x5 x11).length : Int) then (if (rd (rd_L1 x5 x11) x8) = 0 then (spec_l5Reduce.l3 k x1 x5 x7 x8 (wrap64 (x11 + 1))) else (if 0 ≤ x7 then (if x7 < (x5.length : Int) then ((spec_l5Clear.f k (rd_L1 x5 x11) (rd_L1 x5 x7) x8).bind fun t254 => (spec_l5Reduce.l3 k x1 (x5.set (x11 : Int).toNat t254) x7 x8 (wrap64 (x11 + 1)))) else (none)) else (none))) else (none)) else (none)) else (none))) else (spec_l5Reduce.l1 k x1 x5 (wrap64 (x7 + 1)) (wrap64 (x8 + 1)))
def spec_l5Reduce.l2 : Nat → Int → List (List Int) → Int → Int → Int → Option ((List (List Int)))
 | 0, _, _, _, _, _ => none
 | k + 1, x1, x5, x7, x8, x9 => if x9 < (x5.length : Int) then (if 0 ≤ x9 then (if 0 ≤ x8 then (if x8 < ((rd_L1 x5 x9).length : Int) then (if (rd (rd_L1 x5 x9) x8) = 0 then (spec_l5Reduce.l2 k x1 x5 x7 x8 (wrap64 (x9 + 1))) else (spec_l5Reduce.j3 k x1 x5 x7 x8 x9)) else (none)) else (none)) else (none)) else (spec_l5Reduce.j3 k x1 x5 x7 x8 x9)
end
def spec_l5Reduce.f (k : Nat) (l0 : List (List Int)) (a1 : Int) : Option ((List (List Int))) := spec_l5Reduce.l0 k l0 a1 (([] : List (List Int))) 0
theorem spec_l5Reduce.mono_l : ∀ k, (∀ y0 y1 y2 y3, LeO (spec_l5Reduce.l0 k y0 y1 y2 y3) (spec_l5Reduce.l0 (k + 1) y0 y1 y2 y3)) ∧ (∀ y0 y1 y2 y3, LeO (spec_l5Reduce.l1 k y0 y1 y2 y3) (spec_l5Reduce.l1 (k + 1) y0 y1 y2 y3)) ∧ (∀ y0 y1 y2 y3 y4, LeO (spec_l5Reduce.j3 k y0 y1 y2 y3 y4) (spec_l5Reduce.j3 (k + 1) y0 y1 y2 y3 y4)) ∧ (∀ y0 y1 y2 y3 y4, LeO (spec_l5Reduce.l3 k y0 y1 y2 y3 y4) (spec_l5Reduce.l3 (k + 1) y0 y1 y2 y3 y4)) ∧ (∀ y0 y1 y2 y3 y4, LeO (spec_l5Reduce.l2 k y0 y1 y2 y3 y4) (spec_l5Reduce.l2 (k + 1) y0 y1 y2 y3 y4))
|0 => ⟨fun _ _ _ _ r h => by simp [spec_l5Reduce.l0] at h, fun _ _ _ _ r h => by simp [spec_l5Reduce.l1] at h, fun _ _ _ _ _ r h => by simp [spec_l5Reduce.j3] at h, fun _ _ _ _ _ r h => by simp [spec_l5Reduce.l3] at h, fun _ _ _ _ _ r h => by simp [spec_l5Reduce.l2] at h⟩
|k + 1 => by
  obtain ⟨ih0, ih1, ih2, ih3, ih4⟩ := spec_l5Reduce.mono_l k
  refine ⟨?_, ?_, ?_, ?_, ?_⟩
  ·intro y0 y1 y2 y3
   unfold spec_l5Reduce.l0
   repeat' first
  |(with_reducible exact ih0 _ _ _ _)
  |(with_reducible exact ih1 _ _ _ _)
  |(with_reducible exact ih2 _ _ _ _ _)
  |(with_reducible exact ih3 _ _ _ _ _)
  |(with_reducible exact ih4 _ _ _ _ _)
  |(with_reducible exact spec_l5Clear.mono _ _ _ _)
  |(with_reducible exact spec_l5Tidy.mono _ _)
  |(with_reducible exact LeO.refl _)
  |(with_reducible exact LeO.none _)
  |(with_reducible refine LeO.ite ?_ ?_)
  |(with_reducible refine LeO.bind ?_ (fun _ => ?_))
  |exact ih0 _ _ _ _
  |exact ih1 _ _ _ _
  |exact ih2 _ _ _ _ _
  |exact ih3 _ _ _ _ _
  |exact ih4 _ _ _ _ _
  |exact spec_l5Clear.mono _ _ _ _
  |exact spec_l5Tidy.mono _ _
  |exact LeO.none _
  |refine LeO.ite ?_ ?_
  |refine LeO.bind ?_ (fun _ => ?_)
  ·intro y0 y1 y2 y3
   unfold spec_l5Reduce.l1
   repeat' first
  |(with_reducible exact ih0 _ _ _ _)
  |(with_reducible exact ih1 _ _ _ _)
  |(with_reducible exact ih2 _ _ _ _ _)
  |(with_reducible exact ih3 _ _ _ _ _)
  |(with_reducible exact ih4 _ _ _ _ _)
  |(with_reducible exact spec_l5Clear.mono _ _ _ _)
  |(with_reducible exact spec_l5Tidy.mono _ _)
  |(with_reducible exact LeO.refl _)
  |(with_reducible exact LeO.none _)
  |(with_reducible refine LeO.ite ?_ ?_)
  |(with_reducible refine LeO.bind ?_ (fun _ => ?_))
  |exact ih0 _ _ _ _
  |exact ih1 _ _ _ _
  |exact ih2 _ _ _ _ _
  |exact ih3 _ _ _ _ _
  |exact ih4 _ _ _ _ _
  |exact spec_l5Clear.mono _ _ _ _
  |exact spec_l5Tidy.mono _ _
  |exact LeO.none _
  |refine LeO.ite ?_ ?_
  |refine LeO.bind ?_ (fun _ => ?_)
  ·intro y0 y1 y2 y3 y4
   unfold spec_l5Reduce.j3
   repeat' first
  |(with_reducible exact ih0 _ _ _ _)
  |(with_reducible exact ih1 _ _ _ _)
  |(with_reducible exact ih2 _ _ _ _ _)
  |(with_reducible exact ih3 _ _ _ _ _)
  |(with_reducible exact ih4 _ _ _ _ _)
  |(with_reducible exact spec_l5Clear.mono _ _ _ _)
  |(with_reducible exact spec_l5Tidy.mono _ _)
  |(with_reducible exact LeO.refl _)
  |(with_reducible exact LeO.none _)
  |(with_reducible refine LeO.ite ?_ ?_)
  |(with_reducible refine LeO.bind ?_ (fun _ => ?_))
  |exact ih0 _ _ _ _
  |exact ih1 _ _ _ _
  |exact ih2 _ _ _ _ _
  |exact ih3 _ _ _ _ _
  |exact ih4 _ _ _ _ _
  |exact spec_l5Clear.mono _ _ _ _
  |exact spec_l5Tidy.mono _ _
  |exact LeO.none _
  |refine LeO.ite ?_ ?_
  |refine LeO.bind ?_ (fun _ => ?_)
  ·intro y0 y1 y2 y3 y4
   unfold spec_l5Reduce.l3
   repeat' first
  |(with_reducible exact ih0 _ _ _ _)
  |(with_reducible exact ih1 _ _ _ _)
  |(with_reducible exact ih2 _ _ _ _ _)
  |(with_reducible exact ih3 _ _ _ _ _)
  |(with_reducible exact ih4 _ _ _ _ _)
  |(with_reducible exact spec_l5Clear.mono _ _ _ _)
  |(with_reducible exact spec_l5Tidy.mono _ _)
  |(with_reducible exact LeO.refl _)
  |(with_reducible exact LeO.none _)
  |(with_reducible refine LeO.ite ?_ ?_)
  |(with_reducible refine LeO.bind ?_ (fun _ => ?_))
  |exact ih0 _ _ _ _
  |exact ih1 _ _ _ _
  |exact ih2 _ _ _ _ _
  |exact ih3 _ _ _ _ _
  |exact ih4 _ _ _ _ _
  |exact spec_l5Clear.mono _ _ _ _
  |exact spec_l5Tidy.mono _ _
  |exact LeO.none _
  |refine LeO.ite ?_ ?_
  |refine LeO.bind ?_ (fun _ => ?_)
  ·intro y0 y1 y2 y3 y4
   unfold spec_l5Reduce.l2
   repeat' first
  |(with_reducible exact ih0 _ _ _ _)
  |(with_reducible exact ih1 _ _ _ _)
  |(with_reducible exact ih2 _ _ _ _ _)
  |(with_reducible exact ih3 _ _ _ _ _)
  |(with_reducible exact ih4 _ _ _ _ _)
  |(with_reducible exact spec_l5Clear.mono _ _ _ _)
  |(with_reducible exact spec_l5Tidy.mono _ _)
  |(with_reducible exact LeO.refl _)
  |(with_reducible exact LeO.none _)
  |(with_reducible refine LeO.ite ?_ ?_)
  |(with_reducible refine LeO.bind ?_ (fun _ => ?_))
  |exact ih0 _ _ _ _
  |exact ih1 _ _ _ _
  |exact ih2 _ _ _ _ _
  |exact ih3 _ _ _ _ _
  |exact ih4 _ _ _ _ _
  |exact spec_l5Clear.mono _ _ _ _
  |exact spec_l5Tidy.mono _ _
  |exact LeO.none _
  |refine LeO.ite ?_ ?_
  |refine LeO.bind ?_ (fun _ => ?_)
theorem spec_l5Reduce.mono : ∀ a0 a1 k, LeO (spec_l5Reduce.f k a0 a1) (spec_l5Reduce.f (k + 1) a0 a1) := by
 intro a0 a1 k
 obtain ⟨ih0, ih1, ih2, ih3, ih4⟩ := spec_l5Reduce.mono_l k
 unfold spec_l5Reduce.f
 repeat' first
  |(with_reducible exact ih0 _ _ _ _)
  |(with_reducible exact ih1 _ _ _ _)
  |(with_reducible exact ih2 _ _ _ _ _)
  |(with_reducible exact ih3 _ _ _ _ _)
  |(with_reducible exact ih4 _ _ _ _ _)
  |(with_reducible exact spec_l5Clear.mono _ _ _ _)
  |(with_reducible exact spec_l5Tidy.mono _ _)
  |(with_reducible exact LeO.refl _)
  |(with_reducible exact LeO.none _)
  |(with_reducible refine LeO.ite ?_ ?_)
  |(with_reducible refine LeO.bind ?_ (fun _ => ?_))
  |exact ih0 _ _ _ _
  |exact ih1 _ _ _ _
  |exact ih2 _ _ _ _ _
  |exact ih3 _ _ _ _ _
  |exact ih4 _ _ _ _ _
  |exact spec_l5Clear.mono _ _ _ _
  |exact spec_l5Tidy.mono _ _
  |exact LeO.none _
  |refine LeO.ite ?_ ?_
  |refine LeO.bind ?_ (fun _ => ?_)
def spec_l5Reduce.T21 : Bool × List (List Nat × List Nat) := (true, [([], []), ([], []), ([], []), ([], []), ([2, 3], [2, 3]), ([4], [4]), ([], []), ([], []), ([6, 7], [6, 7]), ([8], [8]), ([], []), ([5, 9, 10], [5, 9, 10]), ([0, 1, 0, 1, 2, 3, 4, 5, 6, 7, 8, 9, 10, 11], [0, 1]), ([12, 11, 11, 0, 1, 2, 3, 4, 5, 6, 7, 8, 9, 10, 11], [11, 12])])
def spec_l5Reduce.B21 : List Nat := [0, 0, 0, 0, 12, 28, 0, 0, 192, 448, 0, 2044, 4095, 8191]
theorem spec_l5Reduce.tab21 : rtab .any (opsOf Try.f90 21) = spec_l5Reduce.T21 := by kernel_rfl
theorem spec_l5Reduce.bits21 : waitsOk spec_l5Reduce.T21.2 spec_l5Reduce.B21 = true := by kernel_rfl
set_option maxHeartbeats 8000000 in
set_option maxRecDepth 100000 in
theorem spec_l5Reduce.calls (k : Nat) (A0 : Option Addr) (c0 : Nat) (l0 : List (List Int)) (a1 : Int) (r : List (List Int)) (w : World) (hr0 : Kd.C (Kd.slice 3 (Kd.int .i64)) w A0 l0.length l0) (hc0 : l0.length ≤ c0) (h : spec_l5Reduce.f k l0 a1 = some r) :
  Calls Try.prog 90 #[.slice A0 l0.length c0, .int .i64 a1] w fun e w' => ∃ v0_ : Value, e = .returned (v0_) ∧ Kd.N (Kd.slice 3 (Kd.int .i64)) 23 w' w.heap.size (fun k_ => (w.heap.size ≤ k_)) v0_ r ∧ Below w.heap.size w w' := by
 have HR0 := Aside0.mk hr0
 have HC0 := Aside0.mk hc0
 clear hr0 hc0
 have HB := Aside0.mk (Below.refl w.heap.size w)
 have H : (spec_l5Reduce.l0 k l0 a1 (([] : List (List Int))) 0) = some r := h
 clear h
 obtain ⟨y231, hy231⟩ : ∃ y_ : List (List Int), y_ = (([] : List (List Int))) := ⟨_, rfl⟩
 replace H : (spec_l5Reduce.l0 k l0 a1 y231 0) = some r := by first|(rw [hy231];with_reducible exact H)|(have H2_ := (Option.bind_some _ _).symm.trans H;rw [hy231];with_reducible exact H2_)|(have H2_ := (Option.bind_some _ _).symm.trans H;with_reducible exact H2_)|with_reducible exact H|(rw [hy231];exact H)|exact H
 have Ny231 := Aside0.mk hy231
 clear hy231
 have H' := Aside0.mk H
 clear H
 go_enter Try.func90, Try.ntmps90
 go_wp2_with (first|((with_reducible refine gate_dst (N := 12) rfl ?_);refine Kd.N_lit (Kd.slice 3 (Kd.int .i64)) _ 23 ?hg (N' := 12) ?hd (xs := ([] : List (List Int))) (inner := []) (ok := (fun k_ => (w.heap.size ≤ k_))) (okp := (fun k_ => (w.heap.size ≤ k_))) ?hr ?hp (fun _ hk => hk) ((show ∀ k_, w.heap.size ≤ k_ → (fun k_ => (w.heap.size ≤ k_)) k_ from fun k_ hk => (Nat.le_trans (below_size (by repeat first|(with_reducible first|exact HB.out|apply below_alloc|apply pw_below_drewN|apply below_drew1)|exact HB.out)) hk)) _ (Nat.le_refl _)) (Below.refl _ _) (Nat.le_refl _) (by simp) ?_;(case hd => rfl);(case hg => rfl);(case hr => first|(go_simp;done)|(go_simp;rfl));(case hp => exact (Reps.none _ _));intro v232 w3 ho4 hb hg_ hnew_;clear hg_ hnew_;(first|rw [← Ny231.out] at ho4|(simp only [Int.reduceToNat] at ho4;rw [← Ny231.out] at ho4));have n0_ := Aside0.mk (Kd.N_lower ho4 (below_size (by repeat first|(with_reducible first|exact HB.out|apply below_alloc|apply pw_below_drewN|apply below_drew1)|exact HB.out)));have n1_ := Aside0.mk (below_step (by repeat first|(with_reducible first|exact HB.out|apply below_alloc|apply pw_below_drewN|apply below_drew1)|exact HB.out) hb);clear HB;have HO233 := n0_;have HB := n1_;clear n0_ n1_;clear hb ho4))
 go_loopg [5, 6] k (fun kq v5 v6 w' => ∃ (x5_1 : List (List Int)) (x6_1 : Int), v6 = .int .i64 x6_1 ∧ Aside0 (spec_l5Reduce.l0 kq l0 a1 x5_1 x6_1 = some r) ∧ Aside0 (kq ≤ k) ∧ Aside0 (Kd.N (Kd.slice 3 (Kd.int .i64)) 23 w' w.heap.size (fun k_ => (w.heap.size ≤ k_)) v5 x5_1) ∧ Aside0 (Below w.heap.size w w'))
 case atStart => exact ⟨(y231), (0), (by first|rfl|(simp;done)|(simp [*];done)), H', ⟨Nat.le_refl _⟩, ⟨by (with_reducible repeat (first|apply Kd.N_alloc|apply Kd.N_drewN|apply Kd.N_drew));exact HO233.out⟩, ⟨by repeat (first|(with_reducible first|exact HB.out|apply below_alloc|apply pw_below_drewN|apply below_drew1)|exact HB.out)⟩⟩
 case round =>
  clear H'
  try clear p2
  obtain ⟨x5_1, x6_1, rfl, HA, HK1, HO_5, HB⟩ := hrel
  cases gk with
 |zero => exact absurd HA.out (by simp [spec_l5Reduce.l0])
 |succ k1 =>
   have H := HA.out
   clear HA
   simp only [spec_l5Reduce.l0] at H
   by_cases c5 : x6_1 < (l0.length : Int)
   ·rw [if_pos c5] at H
    have c5b0 : decide (x6_1 < (l0.length : Int)) = true := decide_eq_true c5
    clear c5
    by_cases c6 : 0 ≤ x6_1
    ·rw [if_pos c6] at H
     have c6b0 : decide (0 ≤ x6_1) = true := decide_eq_true c6
     clear c6
     replace H := Option.bind_eq_some_iff.mp H
     obtain ⟨t235, A70, H⟩ := H
     replace H : (if x5_1.length < 5864062014805 then (spec_l5Reduce.l0 k1 l0 a1 (x5_1 ++ [t235]) (wrap64 (x6_1 + 1))) else (none)) = some r := H
     have A7 := Aside0.mk A70
     clear A70
     by_cases c8 : x5_1.length < 5864062014805
     ·rw [if_pos c8] at H
      have LMc8 := Aside0.mk c8
      clear c8
      obtain ⟨y238, hy238⟩ : ∃ y_ : List (List Int), y_ = (x5_1 ++ [t235]) := ⟨_, rfl⟩
      replace H : (spec_l5Reduce.l0 k1 l0 a1 y238 (wrap64 (x6_1 + 1))) = some r := by first|(rw [hy238];with_reducible exact H)|(have H2_ := (Option.bind_some _ _).symm.trans H;rw [hy238];with_reducible exact H2_)|(have H2_ := (Option.bind_some _ _).symm.trans H;with_reducible exact H2_)|with_reducible exact H|(rw [hy238];exact H)|exact H
      have Ny238 := Aside0.mk hy238
      clear hy238
      have H' := Aside0.mk H
      clear H
      have p234 : 0 ≤ (x6_1 : Int) := of_decide_eq_true (by first|(with_reducible assumption)|assumption)
      have q234 : x6_1 < (l0.length : Int) := of_decide_eq_true (by first|(with_reducible assumption)|assumption)
      obtain ⟨ad234, A234_0, c234_0, e234, hx234_0, hl234_0, hi234_0⟩ := at_L1 HR0.out x6_1 p234 q234
      cases e234
      replace hx234_0 := (HB.out.cell (World.block_lt_of_cell? w _ hx234_0)).trans hx234_0
      have HR234_0 := Aside0.mk hi234_0
      have HC234_0 := Aside0.mk hl234_0
      clear hi234_0 hl234_0
      replace p234 := eq_true p234
      replace q234 := eq_true q234
      go_wp2_with (first|((with_reducible refine gate_callee (f := 109) rfl ?_);refine goesL_ (some 24) rfl rfl Try.func109 (by kernel_rfl) rfl #[.slice A234_0 (rd_L1 l0 x6_1).length c234_0] rfl (by (try simp only [List.map_toArray, List.map_cons, List.map_nil]);first|done|rfl|(simp only [List.length_drop, List.length_take];rfl)) ?_;(with_reducible refine (spec_l5Tidy.calls k1 _ _ (rd_L1 l0 x6_1) t235 _ ?side1 ?side2 A7.out).mono ?_);(case side1 => repeat (first|exact (Kd.C_below HR234_0.out HB.out)|(with_reducible refine Kd.C_alloc ?_ _)|(with_reducible refine Kd.C_drewN ?_ _)|(with_reducible refine Kd.C_drew ?_)));(case side2 => exact HC234_0.out);rintro e w9 ⟨v236, rfl, ho0, hb⟩;refine ⟨_, rfl, ?_⟩;have n0_ := Aside0.mk (Kd.N_elder' (by (with_reducible repeat (first|apply Kd.N_alloc|apply Kd.N_drewN|apply Kd.N_drew));exact HO_5.out) (Kd.R_base ho0) hb);have n1_ := Aside0.mk (Kd.R_lower (Kd.R_newM (M := fun k_ => (w.heap.size ≤ k_)) ho0 (below_size (by repeat first|(with_reducible first|exact HB.out|apply below_alloc|apply pw_below_drewN|apply below_drew1)|exact HB.out)) (fun k_ h_ => h_)) (below_size (by repeat first|(with_reducible first|exact HB.out|apply below_alloc|apply pw_below_drewN|apply below_drew1)|exact HB.out)));have n2_ := Aside0.mk (below_step (by repeat first|(with_reducible first|exact HB.out|apply below_alloc|apply pw_below_drewN|apply below_drew1)|exact HB.out) hb);clear HO_5;clear HB;have HO_5 := n0_;have HO237 := n1_;have HB := n2_;clear n0_ n1_ n2_;(try clear hb);(try clear hb2);(try clear hk);(try clear hi);(try clear ho0);obtain ⟨Ao11, co11, eo11⟩ := Kd.R_slice HO237.out;subst eo11)|((with_reducible refine gate_builtin (b := .append) (xs := #[.tmp 19, .tmp 25]) rfl ?_);at_builtin;refine Kd.N_append (Kd.slice 3 (Kd.int .i64)) (w0 := w) w.heap.size rfl (.tmp 19) (.tmp 25) 22 23 (.slice none 0 0) 24 rfl Try.underlying22 info23 rfl (by decide) (by omega) u5 x5_1 t235 [.slice Ao11 t235.length co11] (fun k_ => (w.heap.size ≤ k_)) (fun k_ => ((fun k_ => (w.heap.size ≤ k_))) k_ ∧ some k_ ≠ (u5 : Value).ownBlock) rfl rfl ?aP (fun _ hk => hk) ?aF ?aO ?aB ?aS ?aL ?_;(case aP => exact (Kd.FK_slice_mk (Kd.R_reads' (Kd.R_mono (ok' := (fun k_ => ((fun k_ => (w.heap.size ≤ k_))) k_ ∧ some k_ ≠ (u5 : Value).ownBlock)) (Kd.R_apart' (HO237.out) (Kd.N_typed HO_5.out) (by decide)) (fun k_ hk => ⟨hk.1.1, hk.2⟩))).2.1 (Kd.R_F (Kd.R_mono (ok' := (fun k_ => ((fun k_ => (w.heap.size ≤ k_))) k_ ∧ some k_ ≠ (u5 : Value).ownBlock)) (Kd.R_apart' (HO237.out) (Kd.N_typed HO_5.out) (by decide)) (fun k_ hk => ⟨hk.1.1, hk.2⟩)))));(case aB => exact (by repeat first|(with_reducible first|exact HB.out|apply below_alloc|apply pw_below_drewN|apply below_drew1)|exact HB.out));(case aF => exact (fun k_ hk => (Nat.le_trans (below_size (by repeat first|(with_reducible first|exact HB.out|apply below_alloc|apply pw_below_drewN|apply below_drew1)|exact HB.out)) hk)));(case aO => exact (by (with_reducible repeat (first|apply Kd.N_alloc|apply Kd.N_drewN|apply Kd.N_drew));exact Kd.N_mono HO_5.out (fun _ hk => hk.1)));(case aS => exact (below_size (by repeat first|(with_reducible first|exact HB.out|apply below_alloc|apply pw_below_drewN|apply below_drew1)|exact HB.out)));(case aL => have := LMc8.out;omega);intro v239 w10 ho hb hg hat;rw [← Ny238.out] at ho;have n0_ := Aside0.mk (hb);have n1_ := Aside0.mk (ho);clear HB;clear HO_5;clear HO237;have HB := n0_;have HO240 := n1_;clear n0_ n1_;clear ho hb hg hat))
      go_roundg k1
      case measure => have := HK1.out;omega
      case rel => exact ⟨(y238), (wrap64 (x6_1 + 1)), (by first|rfl|(simp;done)|(simp [*];done)), H', ⟨by have := HK1.out;omega⟩, ⟨by (with_reducible repeat (first|apply Kd.N_alloc|apply Kd.N_drewN|apply Kd.N_drew));exact HO240.out⟩, ⟨by repeat (first|(with_reducible first|exact HB.out|apply below_alloc|apply pw_below_drewN|apply below_drew1)|exact HB.out)⟩⟩
     ·rw [if_neg c8] at H
      exact absurd H (by simp)
    ·rw [if_neg c6] at H
     exact absurd H (by simp)
   ·rw [if_neg c5] at H
    have c5b0 : decide (x6_1 < (l0.length : Int)) = false := decide_eq_false c5
    clear c5
    have H' := Aside0.mk H
    clear H
    go_wp2
    go_loopg [7, 8] k1 (fun kq v7 v8 w' => ∃ (x5_2 : List (List Int)) (x7_2 : Int) (x8_2 : Int), v7 = .int .i64 x7_2 ∧ v8 = .int .i64 x8_2 ∧ Aside0 (spec_l5Reduce.l1 kq a1 x5_2 x7_2 x8_2 = some r) ∧ Aside0 (kq ≤ k1) ∧ Aside0 (Kd.N (Kd.slice 3 (Kd.int .i64)) 23 w' w.heap.size (fun k_ => (w.heap.size ≤ k_)) u5 x5_2) ∧ Aside0 (Below w.heap.size w w'))
    case atStart => exact ⟨(x5_1), (0), (0), (by first|rfl|(simp;done)|(simp [*];done)), (by first|rfl|(simp;done)|(simp [*];done)), H', ⟨Nat.le_refl _⟩, ⟨by (with_reducible repeat (first|apply Kd.N_alloc|apply Kd.N_drewN|apply Kd.N_drew));exact HO_5.out⟩, ⟨by repeat (first|(with_reducible first|exact HB.out|apply below_alloc|apply pw_below_drewN|apply below_drew1)|exact HB.out)⟩⟩
    case round =>
     clear H'
     try clear c1
     try clear c2
     try clear p2
     try clear q2
     try clear hx2
     try clear c5
     try clear c5b0
     try clear c6
     try clear c6b0
     try clear p6
     try clear c8
     try clear c9
     try clear c10
     try clear hx234_0
     try clear p2
     try clear p234
     try clear q234
     obtain ⟨x5_2, x7_2, x8_2, rfl, rfl, HA, HK2, HO_5, HB⟩ := hrel
     cases gk with
    |zero => exact absurd HA.out (by simp [spec_l5Reduce.l1])
    |succ k2 =>
      have H := HA.out
      clear HA
      simp only [spec_l5Reduce.l1] at H
      by_cases c12 : x8_2 < a1
      ·rw [if_pos c12] at H
       have c12b0 : decide (x8_2 < a1) = true := decide_eq_true c12
       clear c12
       have HC13 := Aside0.mk H
       clear H
       go_upto_block 4 with (fail)
       go_cut [9] (fun v9 wc => ∃ (kq : Nat) (x9_12 : Int), v9 = .int .i64 x9_12 ∧ Aside0 (spec_l5Reduce.j3 kq a1 x5_2 x7_2 x8_2 x9_12 = some r) ∧ Aside0 (kq ≤ k2) ∧ Aside0 (Kd.N (Kd.slice 3 (Kd.int .i64)) 23 wc w.heap.size (fun k_ => (w.heap.size ≤ k_)) u5 x5_2) ∧ Aside0 (Below w.heap.size w wc))
       case first =>
        have H := HC13.out
        clear HC13
        have H' := Aside0.mk H
        clear H
        go_wp2
        go_loopg [9] k2 (fun kq v9 w' => ∃ (x9_3 : Int), v9 = .int .i64 x9_3 ∧ Aside0 (spec_l5Reduce.l2 kq a1 x5_2 x7_2 x8_2 x9_3 = some r) ∧ Aside0 (kq ≤ k2) ∧ Aside0 (Kd.N (Kd.slice 3 (Kd.int .i64)) 23 w' w.heap.size (fun k_ => (w.heap.size ≤ k_)) u5 x5_2) ∧ Aside0 (Below w.heap.size w w'))
        case atStart => exact ⟨(x7_2), (by first|rfl|(simp;done)|(simp [*];done)), H', ⟨Nat.le_refl _⟩, ⟨by (with_reducible repeat (first|apply Kd.N_alloc|apply Kd.N_drewN|apply Kd.N_drew));exact HO_5.out⟩, ⟨by repeat (first|(with_reducible first|exact HB.out|apply below_alloc|apply pw_below_drewN|apply below_drew1)|exact HB.out)⟩⟩
        case round =>
         clear H'
         try clear c1
         try clear c2
         try clear p2
         try clear q2
         try clear hx2
         try clear c5
         try clear c5b0
         try clear c6
         try clear c6b0
         try clear p6
         try clear c8
         try clear c9
         try clear c10
         try clear c12
         try clear c12b0
         try clear hx234_0
         try clear p2
         try clear p234
         try clear p6
         try clear q2
         try clear q234
         obtain ⟨x9_3, rfl, HA, HK3, HO_5, HB⟩ := hrel
         cases gk with
        |zero => exact absurd HA.out (by simp [spec_l5Reduce.l2])
        |succ k3 =>
          have H := HA.out
          clear HA
          simp only [spec_l5Reduce.l2] at H
          by_cases c14 : x9_3 < (x5_2.length : Int)
          ·rw [if_pos c14] at H
           have c14b0 : decide (x9_3 < (x5_2.length : Int)) = true := decide_eq_true c14
           clear c14
           (first|rw [c14b0]|(simp only [i64_w, i32_w];rw [c14b0])|skip)
           by_cases c15 : 0 ≤ x9_3
           ·rw [if_pos c15] at H
            have c15b0 : decide (0 ≤ x9_3) = true := decide_eq_true c15
            clear c15
            by_cases c16 : 0 ≤ x8_2
            ·rw [if_pos c16] at H
             have c16b0 : decide (0 ≤ x8_2) = true := decide_eq_true c16
             clear c16
             by_cases c17 : x8_2 < ((rd_L1 x5_2 x9_3).length : Int)
             ·rw [if_pos c17] at H
              have c17b0 : decide (x8_2 < ((rd_L1 x5_2 x9_3).length : Int)) = true := decide_eq_true c17
              clear c17
              by_cases c18 : (rd (rd_L1 x5_2 x9_3) x8_2) = 0
              ·rw [if_pos c18] at H
               have c18b0 : ((rd (rd_L1 x5_2 x9_3) x8_2) == 0) = true := beq_iff_eq.mpr c18
               have c18b1 : ((rd (rd_L1 x5_2 x9_3) x8_2) != 0) = false := bne_eq_false_iff_eq.mpr c18
               clear c18
               have H' := Aside0.mk H
               clear H
               obtain ⟨Ao19, co19, eo19⟩ := Kd.N_slice HO_5.out
               subst eo19
               have p241 : 0 ≤ (x9_3 : Int) := of_decide_eq_true (by first|(with_reducible assumption)|assumption)
               have q241 : x9_3 < (x5_2.length : Int) := of_decide_eq_true (by first|(with_reducible assumption)|assumption)
               obtain ⟨ad241, A241_0, c241_0, e241, hx241_0, hl241_0, hi241_0⟩ := at_L1 (Kd.N_reads' HO_5.out).2.2 x9_3 p241 q241
               cases e241
               obtain ⟨ce241, hce241, hMe241, hcc241⟩ := Kd.N_get HO_5.out [] x9_3 p241 (by first|exact q241|exact of_decide_eq_true (by first|(with_reducible assumption)|assumption)|(have e_ := (Kd.N_reads' HO_5.out).1;omega))
               obtain ⟨ua241_0, uc241_0, rfl, ul241_0, ge241_0⟩ := Kd.FK_slice_open hMe241
               have hv241_0 := hcc241 0 _ rfl
               rw [Nat.add_zero, show ((Kd.slice 3 (Kd.int .i64))).sz = 1 from rfl, Nat.mul_one] at hv241_0
               replace hv241_0 := Option.some.inj (hv241_0.symm.trans hx241_0)
               injection hv241_0 with hva_ hvn_ hvc_
               rw [hva_] at ge241_0
               rw [hvc_] at ul241_0
               have HL241_0 := Aside0.mk (show Kd.V (Kd.int .i64) 3 _ w.heap.size _ _ (rd_L1 x5_2 x9_3) from Kd.V_mk ul241_0 ge241_0)
               clear hva_ hvn_ hvc_ ge241_0 ul241_0
               clear hcc241 hce241
               have HR241_0 := Aside0.mk hi241_0
               have HC241_0 := Aside0.mk hl241_0
               clear hi241_0 hl241_0
               replace p241 := eq_true p241
               replace q241 := eq_true q241
               have p242 : 0 ≤ (x8_2 : Int) := of_decide_eq_true (by first|(with_reducible assumption)|assumption)
               have q242 : x8_2 < ((rd_L1 x5_2 x9_3).length : Int) := of_decide_eq_true (by first|(with_reducible assumption)|assumption)
               obtain ⟨ad242, e242, hx242_0⟩ := Kd.at_int (by repeat (first|(with_reducible exact HR241_0.out)|(with_reducible refine Kd.C_alloc ?_ _)|(with_reducible refine Kd.C_drewN ?_ _)|(with_reducible refine Kd.C_drew ?_)|exact HR241_0.out)) x8_2 p242 q242
               cases e242
               replace p242 := eq_true p242
               replace q242 := eq_true q242
               go_wp2
               go_roundg k3
               case measure => have := HK1.out;have := HK2.out;have := HK3.out;omega
               case rel => exact ⟨(wrap64 (x9_3 + 1)), (by first|rfl|(simp;done)|(simp [*];done)), H', ⟨by have := HK1.out;have := HK2.out;have := HK3.out;omega⟩, ⟨by (with_reducible repeat (first|apply Kd.N_alloc|apply Kd.N_drewN|apply Kd.N_drew));exact HO_5.out⟩, ⟨by repeat (first|(with_reducible first|exact HB.out|apply below_alloc|apply pw_below_drewN|apply below_drew1)|exact HB.out)⟩⟩
              ·rw [if_neg c18] at H
               have c18b0 : ((rd (rd_L1 x5_2 x9_3) x8_2) == 0) = false := beq_eq_false_iff_ne.mpr c18
               have c18b1 : ((rd (rd_L1 x5_2 x9_3) x8_2) != 0) = true := bne_iff_ne.mpr c18
               have H' := Aside0.mk H
               clear H
               obtain ⟨Ao20, co20, eo20⟩ := Kd.N_slice HO_5.out
               subst eo20
               have p241 : 0 ≤ (x9_3 : Int) := of_decide_eq_true (by first|(with_reducible assumption)|assumption)
               have q241 : x9_3 < (x5_2.length : Int) := of_decide_eq_true (by first|(with_reducible assumption)|assumption)
               obtain ⟨ad241, A241_0, c241_0, e241, hx241_0, hl241_0, hi241_0⟩ := at_L1 (Kd.N_reads' HO_5.out).2.2 x9_3 p241 q241
               cases e241
               obtain ⟨ce241, hce241, hMe241, hcc241⟩ := Kd.N_get HO_5.out [] x9_3 p241 (by first|exact q241|exact of_decide_eq_true (by first|(with_reducible assumption)|assumption)|(have e_ := (Kd.N_reads' HO_5.out).1;omega))
               obtain ⟨ua241_0, uc241_0, rfl, ul241_0, ge241_0⟩ := Kd.FK_slice_open hMe241
               have hv241_0 := hcc241 0 _ rfl
               rw [Nat.add_zero, show ((Kd.slice 3 (Kd.int .i64))).sz = 1 from rfl, Nat.mul_one] at hv241_0
               replace hv241_0 := Option.some.inj (hv241_0.symm.trans hx241_0)
               injection hv241_0 with hva_ hvn_ hvc_
               rw [hva_] at ge241_0
               rw [hvc_] at ul241_0
               have HL241_0 := Aside0.mk (show Kd.V (Kd.int .i64) 3 _ w.heap.size _ _ (rd_L1 x5_2 x9_3) from Kd.V_mk ul241_0 ge241_0)
               clear hva_ hvn_ hvc_ ge241_0 ul241_0
               clear hcc241 hce241
               have HR241_0 := Aside0.mk hi241_0
               have HC241_0 := Aside0.mk hl241_0
               clear hi241_0 hl241_0
               replace p241 := eq_true p241
               replace q241 := eq_true q241
               have p242 : 0 ≤ (x8_2 : Int) := of_decide_eq_true (by first|(with_reducible assumption)|assumption)
               have q242 : x8_2 < ((rd_L1 x5_2 x9_3).length : Int) := of_decide_eq_true (by first|(with_reducible assumption)|assumption)
               obtain ⟨ad242, e242, hx242_0⟩ := Kd.at_int (by repeat (first|(with_reducible exact HR241_0.out)|(with_reducible refine Kd.C_alloc ?_ _)|(with_reducible refine Kd.C_drewN ?_ _)|(with_reducible refine Kd.C_drew ?_)|exact HR241_0.out)) x8_2 p242 q242
               cases e242
               replace p242 := eq_true p242
               replace q242 := eq_true q242
               go_wp2
               go_meet
               case rel => exact ⟨_, (x9_3), (by first|rfl|(simp;done)|(simp [*];done)), H', ⟨by have := HK1.out;have := HK2.out;have := HK3.out;first|omega|exact Nat.le_refl _⟩, ⟨by (with_reducible repeat (first|apply Kd.N_alloc|apply Kd.N_drewN|apply Kd.N_drew));exact HO_5.out⟩, ⟨by repeat (first|(with_reducible first|exact HB.out|apply below_alloc|apply pw_below_drewN|apply below_drew1)|exact HB.out)⟩⟩
             ·rw [if_neg c17] at H
              exact absurd H (by simp)
            ·rw [if_neg c16] at H
             exact absurd H (by simp)
           ·rw [if_neg c15] at H
            exact absurd H (by simp)
          ·rw [if_neg c14] at H
           have c14b0 : decide (x9_3 < (x5_2.length : Int)) = false := decide_eq_false c14
           clear c14
           (first|rw [c14b0]|(simp only [i64_w, i32_w];rw [c14b0])|skip)
           have H' := Aside0.mk H
           clear H
           obtain ⟨Ao21, co21, eo21⟩ := Kd.N_slice HO_5.out
           subst eo21
           go_wp2
           go_meet
           case rel => exact ⟨_, (x9_3), (by first|rfl|(simp;done)|(simp [*];done)), H', ⟨by have := HK1.out;have := HK2.out;have := HK3.out;first|omega|exact Nat.le_refl _⟩, ⟨by (with_reducible repeat (first|apply Kd.N_alloc|apply Kd.N_drewN|apply Kd.N_drew));exact HO_5.out⟩, ⟨by repeat (first|(with_reducible first|exact HB.out|apply below_alloc|apply pw_below_drewN|apply below_drew1)|exact HB.out)⟩⟩
       case rest =>
        clear HC13
        try clear c1
        try clear c2
        try clear p2
        try clear q2
        try clear hx2
        try clear c5
        try clear c5b0
        try clear c6
        try clear c6b0
        try clear p6
        try clear c8
        try clear c9
        try clear c10
        try clear c12
        try clear c12b0
        try clear c14
        try clear c14b0
        try clear c15
        try clear c15b0
        try clear c16
        try clear c16b0
        try clear c17
        try clear c17b0
        try clear c18
        try clear c18b0
        try clear c18b1
        try clear hx234_0
        try clear hx241_0
        try clear hx242_0
        try clear p2
        try clear p234
        try clear p241
        try clear p242
        try clear p6
        try clear q2
        try clear q234
        try clear q241
        try clear q242
        obtain ⟨kq, x9_12, rfl, HA, HJ12, HO_5, HB⟩ := hcut
        cases kq with
       |zero => exact absurd HA.out (by simp [spec_l5Reduce.j3])
       |succ kj12 =>
         have H := HA.out
         clear HA
         simp only [spec_l5Reduce.j3] at H
         by_cases c22 : x9_12 = (x5_2.length : Int)
         ·rw [if_pos c22] at H
          have c22b0 : (x9_12 == (x5_2.length : Int)) = true := beq_iff_eq.mpr c22
          have c22b1 : (x9_12 != (x5_2.length : Int)) = false := bne_eq_false_iff_eq.mpr c22
          clear c22
          have H' := Aside0.mk H
          clear H
          obtain ⟨Ao23, co23, eo23⟩ := Kd.N_slice HO_5.out
          subst eo23
          go_wp2
          go_roundg kj12
          case measure => have := HK1.out;have := HK2.out;have := HJ12.out;omega
          case rel => exact ⟨(x5_2), (x7_2), (wrap64 (x8_2 + 1)), (by first|rfl|(simp;done)|(simp [*];done)), (by first|rfl|(simp;done)|(simp [*];done)), H', ⟨by have := HK1.out;have := HK2.out;have := HJ12.out;omega⟩, ⟨by (with_reducible repeat (first|apply Kd.N_alloc|apply Kd.N_drewN|apply Kd.N_drew));exact HO_5.out⟩, ⟨by repeat (first|(with_reducible first|exact HB.out|apply below_alloc|apply pw_below_drewN|apply below_drew1)|exact HB.out)⟩⟩
         ·rw [if_neg c22] at H
          have c22b0 : (x9_12 == (x5_2.length : Int)) = false := beq_eq_false_iff_ne.mpr c22
          have c22b1 : (x9_12 != (x5_2.length : Int)) = true := bne_iff_ne.mpr c22
          by_cases c24 : 0 ≤ x9_12
          ·rw [if_pos c24] at H
           have c24b0 : decide (0 ≤ x9_12) = true := decide_eq_true c24
           clear c24
           by_cases c25 : x9_12 < (x5_2.length : Int)
           ·rw [if_pos c25] at H
            have c25b0 : decide (x9_12 < (x5_2.length : Int)) = true := decide_eq_true c25
            clear c25
            by_cases c26 : 0 ≤ x7_2
            ·rw [if_pos c26] at H
             have c26b0 : decide (0 ≤ x7_2) = true := decide_eq_true c26
             clear c26
             by_cases c27 : x7_2 < (x5_2.length : Int)
             ·rw [if_pos c27] at H
              have c27b0 : decide (x7_2 < (x5_2.length : Int)) = true := decide_eq_true c27
              clear c27
              obtain ⟨y245, hy245⟩ : ∃ y_ : List (List Int), y_ = (x5_2.set (x9_12 : Int).toNat (rd_L1 x5_2 x7_2)) := ⟨_, rfl⟩
              replace H : ((spec_l5Tidy.f kj12 (rd_L1 x5_2 x9_12)).bind fun t246 => (spec_l5Reduce.l3 kj12 a1 (y245.set (x7_2 : Int).toNat t246) x7_2 x8_2 0)) = some r := by first|(rw [hy245];with_reducible exact H)|(have H2_ := (Option.bind_some _ _).symm.trans H;rw [hy245];with_reducible exact H2_)|(have H2_ := (Option.bind_some _ _).symm.trans H;with_reducible exact H2_)|with_reducible exact H|(rw [hy245];exact H)|exact H
              have Ny245 := Aside0.mk hy245
              clear hy245
              replace H := Option.bind_eq_some_iff.mp H
              obtain ⟨t246, A290, H⟩ := H
              replace H : (spec_l5Reduce.l3 kj12 a1 (y245.set (x7_2 : Int).toNat t246) x7_2 x8_2 0) = some r := H
              have A29 := Aside0.mk A290
              clear A290
              obtain ⟨y249, hy249⟩ : ∃ y_ : List (List Int), y_ = (y245.set (x7_2 : Int).toNat t246) := ⟨_, rfl⟩
              replace H : (spec_l5Reduce.l3 kj12 a1 y249 x7_2 x8_2 0) = some r := by first|(rw [hy249];with_reducible exact H)|(have H2_ := (Option.bind_some _ _).symm.trans H;rw [hy249];with_reducible exact H2_)|(have H2_ := (Option.bind_some _ _).symm.trans H;with_reducible exact H2_)|with_reducible exact H|(rw [hy249];exact H)|exact H
              have Ny249 := Aside0.mk hy249
              clear hy249
              have H' := Aside0.mk H
              clear H
              obtain ⟨Ao31, co31, eo31⟩ := Kd.N_slice HO_5.out
              subst eo31
              have p243 : 0 ≤ (x9_12 : Int) := of_decide_eq_true (by first|(with_reducible assumption)|assumption)
              have q243 : x9_12 < (x5_2.length : Int) := of_decide_eq_true (by first|(with_reducible assumption)|assumption)
              obtain ⟨ad243, A243_0, c243_0, e243, hx243_0, hl243_0, hi243_0⟩ := at_L1 (Kd.N_reads' HO_5.out).2.2 x9_12 p243 q243
              cases e243
              obtain ⟨ce243, hce243, hMe243, hcc243⟩ := Kd.N_get HO_5.out [] x9_12 p243 (by first|exact q243|exact of_decide_eq_true (by first|(with_reducible assumption)|assumption)|(have e_ := (Kd.N_reads' HO_5.out).1;omega))
              obtain ⟨ua243_0, uc243_0, rfl, ul243_0, ge243_0⟩ := Kd.FK_slice_open hMe243
              have hv243_0 := hcc243 0 _ rfl
              rw [Nat.add_zero, show ((Kd.slice 3 (Kd.int .i64))).sz = 1 from rfl, Nat.mul_one] at hv243_0
              replace hv243_0 := Option.some.inj (hv243_0.symm.trans hx243_0)
              injection hv243_0 with hva_ hvn_ hvc_
              rw [hva_] at ge243_0
              rw [hvc_] at ul243_0
              have HL243_0 := Aside0.mk (show Kd.V (Kd.int .i64) 3 _ w.heap.size _ _ (rd_L1 x5_2 x9_12) from Kd.V_mk ul243_0 ge243_0)
              clear hva_ hvn_ hvc_ ge243_0 ul243_0
              clear hcc243 hce243
              have HR243_0 := Aside0.mk hi243_0
              have HC243_0 := Aside0.mk hl243_0
              clear hi243_0 hl243_0
              replace p243 := eq_true p243
              replace q243 := eq_true q243
              have p244 : 0 ≤ (x7_2 : Int) := of_decide_eq_true (by first|(with_reducible assumption)|assumption)
              have q244 : x7_2 < (x5_2.length : Int) := of_decide_eq_true (by first|(with_reducible assumption)|assumption)
              obtain ⟨ad244, A244_0, c244_0, e244, hx244_0, hl244_0, hi244_0⟩ := at_L1 (Kd.N_reads' HO_5.out).2.2 x7_2 p244 q244
              obtain rfl : ad243 = ad244 := (by injection e244)
              obtain ⟨ce244, hce244, hMe244, hcc244⟩ := Kd.N_get HO_5.out [] x7_2 p244 (by first|exact q244|exact of_decide_eq_true (by first|(with_reducible assumption)|assumption)|(have e_ := (Kd.N_reads' HO_5.out).1;omega))
              obtain ⟨ua244_0, uc244_0, rfl, ul244_0, ge244_0⟩ := Kd.FK_slice_open hMe244
              have hv244_0 := hcc244 0 _ rfl
              rw [Nat.add_zero, show ((Kd.slice 3 (Kd.int .i64))).sz = 1 from rfl, Nat.mul_one] at hv244_0
              replace hv244_0 := Option.some.inj (hv244_0.symm.trans hx244_0)
              injection hv244_0 with hva_ hvn_ hvc_
              rw [hva_] at ge244_0
              rw [hvc_] at ul244_0
              have HL244_0 := Aside0.mk (show Kd.V (Kd.int .i64) 3 _ w.heap.size _ _ (rd_L1 x5_2 x7_2) from Kd.V_mk ul244_0 ge244_0)
              clear hva_ hvn_ hvc_ ge244_0 ul244_0
              clear hcc244 hce244
              have HR244_0 := Aside0.mk hi244_0
              have HC244_0 := Aside0.mk hl244_0
              clear hi244_0 hl244_0
              replace p244 := eq_true p244
              replace q244 := eq_true q244
              have p28 : 0 ≤ (x9_12 : Int) := of_decide_eq_true (by first|(with_reducible assumption)|assumption)
              have q28 : (x9_12 : Int) < ((x5_2.length : Int) : Int) := of_decide_eq_true (by first|(with_reducible assumption)|assumption)
              obtain ⟨go28, co28, eo28, gb28, gl28, cl28, HG28⟩ := Kd.N_form HO_5.out (by omega)
              (first|cases eo28|(injection eo28 with ea_ en_ ec_;(first|subst ea_|(injection ea_ with ea_;subst ea_));subst ec_;clear en_))
              have GB28 := Aside0.mk gb28
              have GG28 := Aside0.mk HG28
              clear gb28 gl28 HG28
              (first|simp only [add_plain] at hx243_0|skip)
              (first|simp only [add_plain] at hx244_0|skip)
              obtain ⟨ce28, hcl28, hM28, hcc28, hfr28⟩ := Kd.N_elem HO_5.out [] (x9_12 : Int) p28 q28
              obtain ⟨ua28_0, uc28_0, rfl, ul28_0, ge28_0⟩ := Kd.FK_slice_open hM28
              have hx28_0 := hcc28 0 _ rfl
              have hf28_0 := hfr28 0
              (try simp only [show ((Kd.slice 3 (Kd.int .i64))).sz = 1 from rfl, Nat.mul_one, Nat.add_zero] at hx28_0)
              (try simp only [show ((Kd.slice 3 (Kd.int .i64))).sz = 1 from rfl, Nat.mul_one, Nat.add_zero] at hf28_0)
              clear hcl28 hcc28 hfr28;(try clear hM28)
              replace p28 := eq_true p28
              replace q28 := eq_true q28
              have HX32 := Aside0.mk (show Kd.N (Kd.slice 3 (Kd.int .i64)) 23 wc w.heap.size (fun k_ => (w.heap.size ≤ k_)) (.slice (some ⟨go28, 0, none⟩) x5_2.length co31) x5_2 from (by (with_reducible repeat (first|apply Kd.N_alloc|apply Kd.N_drewN|apply Kd.N_drew));exact HO_5.out))
              obtain ⟨ce32, hcl32, hM32, hcc32, hfr32⟩ := Kd.N_elem HX32.out [] (x9_12 : Int) (of_decide_eq_true (by first|(with_reducible assumption)|assumption)) (by have h_ : (x9_12 : Int) < ((x5_2.length : Int) : Int) := of_decide_eq_true (by first|(with_reducible assumption)|assumption);first|exact h_|(have e_ := (Kd.N_reads' HO_5.out).1;omega)|simpa using h_)
              obtain ⟨ua32_0, uc32_0, rfl, ul32_0, ge32_0⟩ := Kd.FK_slice_open hM32
              have HP32 := Kd.N_seg HX32.out (x9_12 : Int) (of_decide_eq_true (by first|(with_reducible assumption)|assumption)) (by have h_ : (x9_12 : Int) < ((x5_2.length : Int) : Int) := of_decide_eq_true (by first|(with_reducible assumption)|assumption);first|exact h_|(have e_ := (Kd.N_reads' HO_5.out).1;omega)|simpa using h_) (seg := [.slice A244_0 (rd_L1 x5_2 x7_2).length c244_0]) (j := 0) hcl32 hcc32 (show 1 ≤ 1 from by decide) (x' := rd_L1 x5_2 x7_2) (Kd.FK_slice_mk (Kd.V_reads' (Kd.V_mono (ok' := (fun k_ => ((fun k_ => (w.heap.size ≤ k_))) k_ ∧ k_ ≠ go28)) (HL244_0.out) (fun k_ hk => ⟨hk.1, fun e_ => (hk.2) (by rw [e_];rfl)⟩))).2.1 (Kd.V_F (Kd.V_mono (ok' := (fun k_ => ((fun k_ => (w.heap.size ≤ k_))) k_ ∧ k_ ≠ go28)) (HL244_0.out) (fun k_ hk => ⟨hk.1, fun e_ => (hk.2) (by rw [e_];rfl)⟩)))) (fun _ hk => hk)
              have hx32_0 := hcc32 0 _ rfl
              (try simp only [show ((Kd.slice 3 (Kd.int .i64))).sz = 1 from rfl, Nat.mul_one, Nat.add_zero] at hx32_0)
              have hf32_0 := hfr32 0
              (try simp only [show ((Kd.slice 3 (Kd.int .i64))).sz = 1 from rfl, Nat.mul_one, Nat.add_zero] at hf32_0)
              clear hcl32 hcc32 hfr32;(try clear hM32)
              (try simp only [show ((Kd.slice 3 (Kd.int .i64))).sz = 1 from rfl, Nat.mul_one, Nat.add_zero] at HP32)
              (try simp only [show ((Kd.slice 3 (Kd.int .i64))).sz = 1 from rfl, Nat.mul_one, Nat.add_zero] at HP32)
              go_wp2_with (first|((with_reducible refine gate_store (t := 23) (p := 63) rfl ?_);refine store_event (t := 23) (p := 63) (v := ?vo_w33) (w1 := (wc.setCell ⟨go28, (x9_12 : Int).toNat, none⟩ (.slice A244_0 (rd_L1 x5_2 x7_2).length c244_0))) ?hg ?ho ?hn ?hr ?_;(case ho => rfl);(case hg => rfl);(case hn => rfl);(case hr => first|(go_simp;done)|(go_simp;rfl));intro w33 hw;have hg : wc.grownBy w33 (some go28) := (by rw [hw];exact HP32.2);have hp_ : Kd.N (Kd.slice 3 (Kd.int .i64)) 23 w33 w.heap.size (fun k_ => (w.heap.size ≤ k_)) (.slice (some ⟨go28, 0, none⟩) x5_2.length co31) y245 := (by rw [hw, Ny245.out];exact HP32.1);clear HP32;have n0_ := Aside0.mk (hp_);have n1_ := Aside0.mk (Kd.V_afterv (v := (.slice (some ⟨go28, 0, none⟩) x5_2.length co31)) (v1 := (.slice (some ⟨go28, 0, none⟩) x5_2.length co31)) (ok := (fun k_ => (w.heap.size ≤ k_))) (by (with_reducible repeat (first|apply Kd.V_alloc|apply Kd.V_drewN|apply Kd.V_drew));exact HL243_0.out) hg (.inl rfl));have n2_ := Aside0.mk (Kd.V_afterv (v := (.slice (some ⟨go28, 0, none⟩) x5_2.length co31)) (v1 := (.slice (some ⟨go28, 0, none⟩) x5_2.length co31)) (ok := (fun k_ => (w.heap.size ≤ k_))) (by (with_reducible repeat (first|apply Kd.V_alloc|apply Kd.V_drewN|apply Kd.V_drew));exact HL244_0.out) hg (.inl rfl));have n3_ := Aside0.mk ((by rw [hw];exact below_set (HB.out) GB28.out : Below w.heap.size w w33));clear HO_5;clear HL243_0;clear HL244_0;clear HB;have HO_5 := n0_;have HL243_0 := n1_;have HL244_0 := n2_;have HB := n3_;clear n0_ n1_ n2_ n3_;clear hg hw hp_)|((with_reducible refine gate_callee (f := 109) rfl ?_);refine goesL_ (some 67) rfl rfl Try.func109 (by kernel_rfl) rfl #[.slice A243_0 (rd_L1 x5_2 x9_12).length c243_0] rfl (by (try simp only [List.map_toArray, List.map_cons, List.map_nil]);first|done|rfl|(simp only [List.length_drop, List.length_take];rfl)) ?_;(with_reducible refine (spec_l5Tidy.calls kj12 _ _ (rd_L1 x5_2 x9_12) t246 _ ?side1 ?side2 A29.out).mono ?_);(case side1 => repeat (first|exact ((Kd.V_reads' (by (with_reducible repeat (first|apply Kd.V_alloc|apply Kd.V_drewN|apply Kd.V_drew));exact HL243_0.out)).2.2)|(with_reducible refine Kd.C_alloc ?_ _)|(with_reducible refine Kd.C_drewN ?_ _)|(with_reducible refine Kd.C_drew ?_)));(case side2 => exact HC243_0.out);rintro e w34 ⟨v247, rfl, ho0, hb⟩;obtain ⟨A247v, c247v, ev247, _, _⟩ := Kd.R_reads ho0;subst ev247;refine ⟨_, rfl, ?_⟩;have n0_ := Aside0.mk (Kd.N_elder' (by (with_reducible repeat (first|apply Kd.N_alloc|apply Kd.N_drewN|apply Kd.N_drew));exact HO_5.out) (Kd.R_base ho0) hb);have n1_ := Aside0.mk (Kd.V_elder' (by (with_reducible repeat (first|apply Kd.V_alloc|apply Kd.V_drewN|apply Kd.V_drew));exact HL243_0.out) (Kd.R_base ho0) hb);have n2_ := Aside0.mk (Kd.V_elder' (by (with_reducible repeat (first|apply Kd.V_alloc|apply Kd.V_drewN|apply Kd.V_drew));exact HL244_0.out) (Kd.R_base ho0) hb);have n3_ := Aside0.mk (Kd.R_lower (Kd.R_newM (M := fun k_ => (w.heap.size ≤ k_)) ho0 (below_size (by repeat first|(with_reducible first|exact HB.out|apply below_alloc|apply pw_below_drewN|apply below_drew1)|exact HB.out)) (fun k_ h_ => h_)) (below_size (by repeat first|(with_reducible first|exact HB.out|apply below_alloc|apply pw_below_drewN|apply below_drew1)|exact HB.out)));have n4_ := Aside0.mk (below_step (by repeat first|(with_reducible first|exact HB.out|apply below_alloc|apply pw_below_drewN|apply below_drew1)|exact HB.out) hb);clear HO_5;clear HL243_0;clear HL244_0;clear HB;have HO_5 := n0_;have HL243_0 := n1_;have HL244_0 := n2_;have HO248 := n3_;have HB := n4_;clear n0_ n1_ n2_ n3_ n4_;(try clear hb);(try clear hb2);(try clear hk);(try clear hi);(try clear ho0);have p30 : 0 ≤ (x7_2 : Int) := of_decide_eq_true (by first|(with_reducible assumption)|assumption);have q30 : (x7_2 : Int) < ((x5_2.length : Int) : Int) := of_decide_eq_true (by first|(with_reducible assumption)|assumption);obtain ⟨ce30, hcl30, hM30, hcc30, hfr30⟩ := Kd.N_elem HO_5.out [] (x7_2 : Int) p30 q30;obtain ⟨ua30_0, uc30_0, rfl, ul30_0, ge30_0⟩ := Kd.FK_slice_open hM30;have hx30_0 := hcc30 0 _ rfl;have hf30_0 := hfr30 0;(try simp only [show ((Kd.slice 3 (Kd.int .i64))).sz = 1 from rfl, Nat.mul_one, Nat.add_zero] at hx30_0);(try simp only [show ((Kd.slice 3 (Kd.int .i64))).sz = 1 from rfl, Nat.mul_one, Nat.add_zero] at hf30_0);clear hcl30 hcc30 hfr30;(try clear hM30);replace p30 := eq_true p30;replace q30 := eq_true q30;have HX35 := Aside0.mk (show Kd.N (Kd.slice 3 (Kd.int .i64)) 23 w34 w.heap.size (fun k_ => (w.heap.size ≤ k_)) (.slice (some ⟨go28, 0, none⟩) x5_2.length co31) y245 from (by (with_reducible repeat (first|apply Kd.N_alloc|apply Kd.N_drewN|apply Kd.N_drew));exact Kd.N_mono HO_5.out (fun _ hk => hk.1)));obtain ⟨ce35, hcl35, hM35, hcc35, hfr35⟩ := Kd.N_elem HX35.out [] (x7_2 : Int) (of_decide_eq_true (by first|(with_reducible assumption)|assumption)) (by have h_ : (x7_2 : Int) < ((x5_2.length : Int) : Int) := of_decide_eq_true (by first|(with_reducible assumption)|assumption);first|exact h_|(have e_ := (Kd.N_reads' HO_5.out).1;omega)|simpa using h_);obtain ⟨ua35_0, uc35_0, rfl, ul35_0, ge35_0⟩ := Kd.FK_slice_open hM35;have HP35 := Kd.N_seg HX35.out (x7_2 : Int) (of_decide_eq_true (by first|(with_reducible assumption)|assumption)) (by have h_ : (x7_2 : Int) < ((x5_2.length : Int) : Int) := of_decide_eq_true (by first|(with_reducible assumption)|assumption);first|exact h_|(have e_ := (Kd.N_reads' HO_5.out).1;omega)|simpa using h_) (seg := [(.slice A247v t246.length c247v : Value)]) (j := 0) hcl35 hcc35 (show 1 ≤ 1 from by decide) (x' := t246) (Kd.FK_slice_mk (Kd.R_reads' (Kd.R_mono (ok' := (fun k_ => ((fun k_ => (w.heap.size ≤ k_))) k_ ∧ k_ ≠ go28)) (Kd.R_apart' (HO248.out) (Kd.N_typed HO_5.out) (by decide)) (fun k_ hk => ⟨hk.1.1, fun e_ => (hk.2) (by rw [e_];rfl)⟩))).2.1 (Kd.R_F (Kd.R_mono (ok' := (fun k_ => ((fun k_ => (w.heap.size ≤ k_))) k_ ∧ k_ ≠ go28)) (Kd.R_apart' (HO248.out) (Kd.N_typed HO_5.out) (by decide)) (fun k_ hk => ⟨hk.1.1, fun e_ => (hk.2) (by rw [e_];rfl)⟩)))) (fun _ hk => hk);have hx35_0 := hcc35 0 _ rfl;(try simp only [show ((Kd.slice 3 (Kd.int .i64))).sz = 1 from rfl, Nat.mul_one, Nat.add_zero] at hx35_0);have hf35_0 := hfr35 0;(try simp only [show ((Kd.slice 3 (Kd.int .i64))).sz = 1 from rfl, Nat.mul_one, Nat.add_zero] at hf35_0);clear hcl35 hcc35 hfr35;(try clear hM35);(try simp only [show ((Kd.slice 3 (Kd.int .i64))).sz = 1 from rfl, Nat.mul_one, Nat.add_zero] at HP35);(try simp only [show ((Kd.slice 3 (Kd.int .i64))).sz = 1 from rfl, Nat.mul_one, Nat.add_zero] at HP35))|((with_reducible refine gate_store (t := 23) (p := 68) rfl ?_);refine store_event (t := 23) (p := 68) (v := ?vo_w36) (w1 := (w34.setCell ⟨go28, (x7_2 : Int).toNat, none⟩ ((.slice A247v t246.length c247v : Value)))) ?hg ?ho ?hn ?hr ?_;(case ho => rfl);(case hg => rfl);(case hn => rfl);(case hr => first|(go_simp;done)|(go_simp;rfl));intro w36 hw;have hg : w34.grownBy w36 (some go28) := (by rw [hw];exact HP35.2);have hp_ : Kd.N (Kd.slice 3 (Kd.int .i64)) 23 w36 w.heap.size (fun k_ => (w.heap.size ≤ k_)) (.slice (some ⟨go28, 0, none⟩) x5_2.length co31) y249 := (by rw [hw, Ny249.out];exact HP35.1);clear HP35;have n0_ := Aside0.mk (hp_);have n1_ := Aside0.mk (Kd.V_afterv (v := (.slice (some ⟨go28, 0, none⟩) x5_2.length co31)) (v1 := (.slice (some ⟨go28, 0, none⟩) x5_2.length co31)) (ok := (fun k_ => (w.heap.size ≤ k_) ∧ some k_ ≠ ((.slice A247v t246.length c247v : Value) : Value).ownBlock)) (by (with_reducible repeat (first|apply Kd.V_alloc|apply Kd.V_drewN|apply Kd.V_drew));exact Kd.V_mono HL243_0.out (fun _ hk => ⟨⟨hk.1.1, hk.2⟩, hk.1.2⟩)) hg (.inl rfl));have n2_ := Aside0.mk (Kd.V_afterv (v := (.slice (some ⟨go28, 0, none⟩) x5_2.length co31)) (v1 := (.slice (some ⟨go28, 0, none⟩) x5_2.length co31)) (ok := (fun k_ => (w.heap.size ≤ k_) ∧ some k_ ≠ ((.slice A247v t246.length c247v : Value) : Value).ownBlock)) (by (with_reducible repeat (first|apply Kd.V_alloc|apply Kd.V_drewN|apply Kd.V_drew));exact Kd.V_mono HL244_0.out (fun _ hk => ⟨⟨hk.1.1, hk.2⟩, hk.1.2⟩)) hg (.inl rfl));have n3_ := Aside0.mk ((by rw [hw];exact below_set (HB.out) GB28.out : Below w.heap.size w w36));clear HO_5;clear HL243_0;clear HL244_0;clear HB;clear HO248;have HO_5 := n0_;have HL243_0 := n1_;have HL244_0 := n2_;have HB := n3_;clear n0_ n1_ n2_ n3_;clear hg hw hp_))
              go_loopg [11] kj12 (fun kq v11 w' => ∃ (x5_4 : List (List Int)) (x11_4 : Int), v11 = .int .i64 x11_4 ∧ Aside0 (spec_l5Reduce.l3 kq a1 x5_4 x7_2 x8_2 x11_4 = some r) ∧ Aside0 (kq ≤ kj12) ∧ Aside0 (Kd.N (Kd.slice 3 (Kd.int .i64)) 23 w' w.heap.size (fun k_ => (w.heap.size ≤ k_)) (.slice (some ⟨go28, 0, none⟩) x5_2.length co31) x5_4) ∧ Aside0 (Below w.heap.size w w'))
              case atStart => exact ⟨(y249), (0), (by first|rfl|(simp;done)|(simp [*];done)), H', ⟨Nat.le_refl _⟩, ⟨by (with_reducible repeat (first|apply Kd.N_alloc|apply Kd.N_drewN|apply Kd.N_drew));exact HO_5.out⟩, ⟨by repeat (first|(with_reducible first|exact HB.out|apply below_alloc|apply pw_below_drewN|apply below_drew1)|exact HB.out)⟩⟩
              case round =>
               clear H'
               try clear c1
               try clear c2
               try clear p2
               try clear q2
               try clear hx2
               try clear hf2
               try clear c3
               try clear p3
               try clear q3
               try clear hx3
               try clear hf3
               try clear c5
               try clear c5b0
               try clear c6
               try clear c6b0
               try clear p6
               try clear c8
               try clear c9
               try clear c10
               try clear c12
               try clear c12b0
               try clear c14
               try clear c14b0
               try clear c15
               try clear c15b0
               try clear c16
               try clear c16b0
               try clear c17
               try clear c17b0
               try clear c18
               try clear c18b0
               try clear c18b1
               try clear c22
               try clear c22b0
               try clear c22b1
               try clear c23
               try clear p23
               try clear q23
               try clear hx23
               try clear c24
               try clear c24b0
               try clear p24
               try clear q24
               try clear hx24
               try clear c25
               try clear c25b0
               try clear c26
               try clear c26b0
               try clear c27
               try clear c27b0
               try clear c28
               try clear p28
               try clear q28
               try clear hx28
               try clear hf28
               try clear c30
               try clear p30
               try clear q30
               try clear hx30
               try clear hf30
               try clear c32
               try clear hx32
               try clear hf32
               try clear c35
               try clear hx35
               try clear hf35
               try clear hx234_0
               try clear hx241_0
               try clear hx242_0
               try clear hx243_0
               try clear hx244_0
               try clear hx28_0
               try clear hx30_0
               try clear hx32_0
               try clear hx35_0
               try clear p2
               try clear p234
               try clear p241
               try clear p242
               try clear p243
               try clear p244
               try clear p28
               try clear p30
               try clear p6
               try clear q2
               try clear q234
               try clear q241
               try clear q242
               try clear q243
               try clear q244
               try clear q28
               try clear q30
               obtain ⟨x5_4, x11_4, rfl, HA, HK4, HO_5, HB⟩ := hrel
               have hl5_4 := (Kd.N_reads' HO_5.out).1
               rw [hl5_4] at HO_5
               (try simp only [hl5_4])
               cases gk with
              |zero => exact absurd HA.out (by simp [spec_l5Reduce.l3])
              |succ k4 =>
                have H := HA.out
                clear HA
                simp only [spec_l5Reduce.l3] at H
                by_cases c37 : x11_4 < (x5_4.length : Int)
                ·rw [if_pos c37] at H
                 have c37b0 : decide (x11_4 < (x5_4.length : Int)) = true := decide_eq_true c37
                 clear c37
                 by_cases c38 : x11_4 = x7_2
                 ·rw [if_pos c38] at H
                  have c38b0 : (x11_4 == x7_2) = true := beq_iff_eq.mpr c38
                  have c38b1 : (x11_4 != x7_2) = false := bne_eq_false_iff_eq.mpr c38
                  clear c38
                  have H' := Aside0.mk H
                  clear H
                  go_wp2
                  (try simp only [← hl5_4])
                  go_roundg k4
                  case measure => have := HK1.out;have := HK2.out;have := HJ12.out;have := HK4.out;omega
                  case rel => exact ⟨(x5_4), (wrap64 (x11_4 + 1)), (by first|rfl|(simp;done)|(simp [*];done)), H', ⟨by have := HK1.out;have := HK2.out;have := HJ12.out;have := HK4.out;omega⟩, ⟨by (try simp only [hl5_4]);(with_reducible repeat (first|apply Kd.N_alloc|apply Kd.N_drewN|apply Kd.N_drew));exact HO_5.out⟩, ⟨by repeat (first|(with_reducible first|exact HB.out|apply below_alloc|apply pw_below_drewN|apply below_drew1)|exact HB.out)⟩⟩
                 ·rw [if_neg c38] at H
                  have c38b0 : (x11_4 == x7_2) = false := beq_eq_false_iff_ne.mpr c38
                  have c38b1 : (x11_4 != x7_2) = true := bne_iff_ne.mpr c38
                  by_cases c39 : 0 ≤ x11_4
                  ·rw [if_pos c39] at H
                   have c39b0 : decide (0 ≤ x11_4) = true := decide_eq_true c39
                   clear c39
                   by_cases c40 : 0 ≤ x8_2
                   ·rw [if_pos c40] at H
                    have c40b0 : decide (0 ≤ x8_2) = true := decide_eq_true c40
                    clear c40
                    by_cases c41 : x8_2 < ((rd_L1 x5_4 x11_4).length : Int)
                    ·rw [if_pos c41] at H
                     have c41b0 : decide (x8_2 < ((rd_L1 x5_4 x11_4).length : Int)) = true := decide_eq_true c41
                     clear c41
                     by_cases c42 : (rd (rd_L1 x5_4 x11_4) x8_2) = 0
                     ·rw [if_pos c42] at H
                      have c42b0 : ((rd (rd_L1 x5_4 x11_4) x8_2) == 0) = true := beq_iff_eq.mpr c42
                      have c42b1 : ((rd (rd_L1 x5_4 x11_4) x8_2) != 0) = false := bne_eq_false_iff_eq.mpr c42
                      clear c42
                      have H' := Aside0.mk H
                      clear H
                      have p250 : 0 ≤ (x11_4 : Int) := of_decide_eq_true (by first|(with_reducible assumption)|assumption)
                      have q250 : x11_4 < (x5_4.length : Int) := of_decide_eq_true (by first|(with_reducible assumption)|assumption)
                      obtain ⟨ad250, A250_0, c250_0, e250, hx250_0, hl250_0, hi250_0⟩ := at_L1 (Kd.N_reads' HO_5.out).2.2 x11_4 p250 q250
                      obtain rfl : (⟨go28, 0, none⟩ : Addr) = ad250 := (by injection e250)
                      obtain ⟨ce250, hce250, hMe250, hcc250⟩ := Kd.N_get HO_5.out [] x11_4 p250 (by first|exact q250|exact of_decide_eq_true (by first|(with_reducible assumption)|assumption)|(have e_ := (Kd.N_reads' HO_5.out).1;omega))
                      obtain ⟨ua250_0, uc250_0, rfl, ul250_0, ge250_0⟩ := Kd.FK_slice_open hMe250
                      have hv250_0 := hcc250 0 _ rfl
                      rw [Nat.add_zero, show ((Kd.slice 3 (Kd.int .i64))).sz = 1 from rfl, Nat.mul_one] at hv250_0
                      replace hv250_0 := Option.some.inj (hv250_0.symm.trans hx250_0)
                      injection hv250_0 with hva_ hvn_ hvc_
                      rw [hva_] at ge250_0
                      rw [hvc_] at ul250_0
                      have HL250_0 := Aside0.mk (show Kd.V (Kd.int .i64) 3 _ w.heap.size _ _ (rd_L1 x5_4 x11_4) from Kd.V_mk ul250_0 ge250_0)
                      clear hva_ hvn_ hvc_ ge250_0 ul250_0
                      clear hcc250 hce250
                      (first|simp only [add_plain] at hx250_0|simp only [add_at] at hx250_0|simp only [Addr.add, Nat.zero_add] at hx250_0|skip)
                      have HR250_0 := Aside0.mk hi250_0
                      have HC250_0 := Aside0.mk hl250_0
                      clear hi250_0 hl250_0
                      replace p250 := eq_true p250
                      replace q250 := eq_true q250
                      have p251 : 0 ≤ (x8_2 : Int) := of_decide_eq_true (by first|(with_reducible assumption)|assumption)
                      have q251 : x8_2 < ((rd_L1 x5_4 x11_4).length : Int) := of_decide_eq_true (by first|(with_reducible assumption)|assumption)
                      obtain ⟨ad251, e251, hx251_0⟩ := Kd.at_int (by repeat (first|(with_reducible exact HR250_0.out)|(with_reducible refine Kd.C_alloc ?_ _)|(with_reducible refine Kd.C_drewN ?_ _)|(with_reducible refine Kd.C_drew ?_)|exact HR250_0.out)) x8_2 p251 q251
                      cases e251
                      replace p251 := eq_true p251
                      replace q251 := eq_true q251
                      go_wp2
                      (try simp only [← hl5_4])
                      go_roundg k4
                      case measure => have := HK1.out;have := HK2.out;have := HJ12.out;have := HK4.out;omega
                      case rel => exact ⟨(x5_4), (wrap64 (x11_4 + 1)), (by first|rfl|(simp;done)|(simp [*];done)), H', ⟨by have := HK1.out;have := HK2.out;have := HJ12.out;have := HK4.out;omega⟩, ⟨by (try simp only [hl5_4]);(with_reducible repeat (first|apply Kd.N_alloc|apply Kd.N_drewN|apply Kd.N_drew));exact HO_5.out⟩, ⟨by repeat (first|(with_reducible first|exact HB.out|apply below_alloc|apply pw_below_drewN|apply below_drew1)|exact HB.out)⟩⟩
                     ·rw [if_neg c42] at H
                      have c42b0 : ((rd (rd_L1 x5_4 x11_4) x8_2) == 0) = false := beq_eq_false_iff_ne.mpr c42
                      have c42b1 : ((rd (rd_L1 x5_4 x11_4) x8_2) != 0) = true := bne_iff_ne.mpr c42
                      by_cases c43 : 0 ≤ x7_2
                      ·rw [if_pos c43] at H
                       have c43b0 : decide (0 ≤ x7_2) = true := decide_eq_true c43
                       clear c43
                       by_cases c44 : x7_2 < (x5_4.length : Int)
                       ·rw [if_pos c44] at H
                        have c44b0 : decide (x7_2 < (x5_4.length : Int)) = true := decide_eq_true c44
                        clear c44
                        replace H := Option.bind_eq_some_iff.mp H
                        obtain ⟨t254, A450, H⟩ := H
                        replace H : (spec_l5Reduce.l3 k4 a1 (x5_4.set (x11_4 : Int).toNat t254) x7_2 x8_2 (wrap64 (x11_4 + 1))) = some r := H
                        have A45 := Aside0.mk A450
                        clear A450
                        obtain ⟨y257, hy257⟩ : ∃ y_ : List (List Int), y_ = (x5_4.set (x11_4 : Int).toNat t254) := ⟨_, rfl⟩
                        replace H : (spec_l5Reduce.l3 k4 a1 y257 x7_2 x8_2 (wrap64 (x11_4 + 1))) = some r := by first|(rw [hy257];with_reducible exact H)|(have H2_ := (Option.bind_some _ _).symm.trans H;rw [hy257];with_reducible exact H2_)|(have H2_ := (Option.bind_some _ _).symm.trans H;with_reducible exact H2_)|with_reducible exact H|(rw [hy257];exact H)|exact H
                        have Ny257 := Aside0.mk hy257
                        clear hy257
                        have H' := Aside0.mk H
                        clear H
                        have p250 : 0 ≤ (x11_4 : Int) := of_decide_eq_true (by first|(with_reducible assumption)|assumption)
                        have q250 : x11_4 < (x5_4.length : Int) := of_decide_eq_true (by first|(with_reducible assumption)|assumption)
                        obtain ⟨ad250, A250_0, c250_0, e250, hx250_0, hl250_0, hi250_0⟩ := at_L1 (Kd.N_reads' HO_5.out).2.2 x11_4 p250 q250
                        obtain rfl : (⟨go28, 0, none⟩ : Addr) = ad250 := (by injection e250)
                        obtain ⟨ce250, hce250, hMe250, hcc250⟩ := Kd.N_get HO_5.out [] x11_4 p250 (by first|exact q250|exact of_decide_eq_true (by first|(with_reducible assumption)|assumption)|(have e_ := (Kd.N_reads' HO_5.out).1;omega))
                        obtain ⟨ua250_0, uc250_0, rfl, ul250_0, ge250_0⟩ := Kd.FK_slice_open hMe250
                        have hv250_0 := hcc250 0 _ rfl
                        rw [Nat.add_zero, show ((Kd.slice 3 (Kd.int .i64))).sz = 1 from rfl, Nat.mul_one] at hv250_0
                        replace hv250_0 := Option.some.inj (hv250_0.symm.trans hx250_0)
                        injection hv250_0 with hva_ hvn_ hvc_
                        rw [hva_] at ge250_0
                        rw [hvc_] at ul250_0
                        have HL250_0 := Aside0.mk (show Kd.V (Kd.int .i64) 3 _ w.heap.size _ _ (rd_L1 x5_4 x11_4) from Kd.V_mk ul250_0 ge250_0)
                        clear hva_ hvn_ hvc_ ge250_0 ul250_0
                        clear hcc250 hce250
                        (first|simp only [add_plain] at hx250_0|simp only [add_at] at hx250_0|simp only [Addr.add, Nat.zero_add] at hx250_0|skip)
                        have HR250_0 := Aside0.mk hi250_0
                        have HC250_0 := Aside0.mk hl250_0
                        clear hi250_0 hl250_0
                        replace p250 := eq_true p250
                        replace q250 := eq_true q250
                        have p251 : 0 ≤ (x8_2 : Int) := of_decide_eq_true (by first|(with_reducible assumption)|assumption)
                        have q251 : x8_2 < ((rd_L1 x5_4 x11_4).length : Int) := of_decide_eq_true (by first|(with_reducible assumption)|assumption)
                        obtain ⟨ad251, e251, hx251_0⟩ := Kd.at_int (by repeat (first|(with_reducible exact HR250_0.out)|(with_reducible refine Kd.C_alloc ?_ _)|(with_reducible refine Kd.C_drewN ?_ _)|(with_reducible refine Kd.C_drew ?_)|exact HR250_0.out)) x8_2 p251 q251
                        cases e251
                        replace p251 := eq_true p251
                        replace q251 := eq_true q251
                        try go_wp2
                        have n0_ := Aside0.mk (Kd.N_drew HO_5.out)
                        have n1_ := Aside0.mk (Kd.V_drew HL250_0.out)
                        have n2_ := Aside0.mk (Kd.C_drew HR250_0.out)
                        have n3_ := Aside0.mk (below_drew1 HB.out)
                        clear HO_5
                        clear HL250_0
                        clear HR250_0
                        clear HB
                        have HO_5 := n0_
                        have HL250_0 := n1_
                        have HR250_0 := n2_
                        have HB := n3_
                        clear n0_ n1_ n2_ n3_
                        have p252 : 0 ≤ (x11_4 : Int) := of_decide_eq_true (by first|(with_reducible assumption)|assumption)
                        have q252 : x11_4 < (x5_4.length : Int) := of_decide_eq_true (by first|(with_reducible assumption)|assumption)
                        obtain ⟨ad252, A252_0, c252_0, e252, hx252_0, hl252_0, hi252_0⟩ := at_L1 (Kd.N_reads' HO_5.out).2.2 x11_4 p252 q252
                        obtain rfl : (⟨go28, 0, none⟩ : Addr) = ad252 := (by injection e252)
                        obtain ⟨ce252, hce252, hMe252, hcc252⟩ := Kd.N_get HO_5.out [] x11_4 p252 (by first|exact q252|exact of_decide_eq_true (by first|(with_reducible assumption)|assumption)|(have e_ := (Kd.N_reads' HO_5.out).1;omega))
                        obtain ⟨ua252_0, uc252_0, rfl, ul252_0, ge252_0⟩ := Kd.FK_slice_open hMe252
                        have hv252_0 := hcc252 0 _ rfl
                        rw [Nat.add_zero, show ((Kd.slice 3 (Kd.int .i64))).sz = 1 from rfl, Nat.mul_one] at hv252_0
                        replace hv252_0 := Option.some.inj (hv252_0.symm.trans hx252_0)
                        injection hv252_0 with hva_ hvn_ hvc_
                        rw [hva_] at ge252_0
                        rw [hvc_] at ul252_0
                        have HL252_0 := Aside0.mk (show Kd.V (Kd.int .i64) 3 _ w.heap.size _ _ (rd_L1 x5_4 x11_4) from Kd.V_mk ul252_0 ge252_0)
                        clear hva_ hvn_ hvc_ ge252_0 ul252_0
                        clear hcc252 hce252
                        (first|simp only [add_plain] at hx252_0|simp only [add_at] at hx252_0|simp only [Addr.add, Nat.zero_add] at hx252_0|skip)
                        have HR252_0 := Aside0.mk hi252_0
                        have HC252_0 := Aside0.mk hl252_0
                        clear hi252_0 hl252_0
                        replace p252 := eq_true p252
                        replace q252 := eq_true q252
                        have p253 : 0 ≤ (x7_2 : Int) := of_decide_eq_true (by first|(with_reducible assumption)|assumption)
                        have q253 : x7_2 < (x5_4.length : Int) := of_decide_eq_true (by first|(with_reducible assumption)|assumption)
                        obtain ⟨ad253, A253_0, c253_0, e253, hx253_0, hl253_0, hi253_0⟩ := at_L1 (Kd.N_reads' HO_5.out).2.2 x7_2 p253 q253
                        obtain rfl : (⟨go28, 0, none⟩ : Addr) = ad253 := (by injection e253)
                        obtain ⟨ce253, hce253, hMe253, hcc253⟩ := Kd.N_get HO_5.out [] x7_2 p253 (by first|exact q253|exact of_decide_eq_true (by first|(with_reducible assumption)|assumption)|(have e_ := (Kd.N_reads' HO_5.out).1;omega))
                        obtain ⟨ua253_0, uc253_0, rfl, ul253_0, ge253_0⟩ := Kd.FK_slice_open hMe253
                        have hv253_0 := hcc253 0 _ rfl
                        rw [Nat.add_zero, show ((Kd.slice 3 (Kd.int .i64))).sz = 1 from rfl, Nat.mul_one] at hv253_0
                        replace hv253_0 := Option.some.inj (hv253_0.symm.trans hx253_0)
                        injection hv253_0 with hva_ hvn_ hvc_
                        rw [hva_] at ge253_0
                        rw [hvc_] at ul253_0
                        have HL253_0 := Aside0.mk (show Kd.V (Kd.int .i64) 3 _ w.heap.size _ _ (rd_L1 x5_4 x7_2) from Kd.V_mk ul253_0 ge253_0)
                        clear hva_ hvn_ hvc_ ge253_0 ul253_0
                        clear hcc253 hce253
                        (first|simp only [add_plain] at hx253_0|simp only [add_at] at hx253_0|simp only [Addr.add, Nat.zero_add] at hx253_0|skip)
                        have HR253_0 := Aside0.mk hi253_0
                        have HC253_0 := Aside0.mk hl253_0
                        clear hi253_0 hl253_0
                        replace p253 := eq_true p253
                        replace q253 := eq_true q253
                        refine start_ (n := 14) (S := fun w' => w'.cell? ⟨go28, (x11_4).toNat, none⟩ = some (.slice A252_0 (rd_L1 x5_4 x11_4).length c252_0) ∧ w'.cell? ⟨go28, (x7_2).toNat, none⟩ = some (.slice A253_0 (rd_L1 x5_4 x7_2).length c253_0)) (ds := [13]) #[false, false, false, false, false, false, false, false, false, false, false, false, false, false] (by kernel_rfl) rfl rfl ⟨hx252_0, hx253_0⟩ (fun hHeld => ?_);refine with_tabW spec_l5Reduce.tab21 spec_l5Reduce.bits21 (fun HT_ HW_ => ?_)
                        generalize wr.drew = w47 at HO_5 HL250_0 HR250_0 HB HL252_0 HL253_0 HR252_0 HR253_0 hx252_0 hx253_0 hHeld ⊢
                        refine pure_ (i := 0) (N := some 88) (v := ?_) (a' := ?_) #[true, false, false, false, false, false, false, false, false, false, false, false, false, false] rfl rfl (any_of HT_.out (by kernel_rfl)) (fun _ _ _ h => h) (Or.inl ⟨by rfl, ?_⟩) ?_ ?_
                        rotate_left
                        ·intro w'
                         go_simp
                         with_reducible rfl
                        rotate_left
                        ·simp only [Act.put, List.setIfInBounds_toArray, List.set_cons_zero, List.set_cons_succ, i64_w, i32_w]
                         rfl
                        refine pure_ (i := 1) (N := some 89) (v := ?_) (a' := ?_) #[true, true, false, false, false, false, false, false, false, false, false, false, false, false] rfl rfl (any_of HT_.out (by kernel_rfl)) (fun _ _ _ h => h) (Or.inl ⟨by rfl, ?_⟩) ?_ ?_
                        rotate_left
                        ·intro w'
                         go_simp
                         with_reducible rfl
                        rotate_left
                        ·simp only [Act.put, List.setIfInBounds_toArray, List.set_cons_zero, List.set_cons_succ, i64_w, i32_w]
                         rfl
                        refine pure_ (i := 2) (N := some 90) (v := ?_) (a' := ?_) #[true, true, true, false, false, false, false, false, false, false, false, false, false, false] rfl rfl (any_of HT_.out (by kernel_rfl)) (fun _ _ _ h => h) (Or.inl ⟨by rfl, ?_⟩) ?_ ?_
                        rotate_left
                        ·intro w'
                         go_simp
                         with_reducible rfl
                        rotate_left
                        ·simp only [Act.put, List.setIfInBounds_toArray, List.set_cons_zero, List.set_cons_succ, i64_w, i32_w]
                         rfl
                        refine pure_ (i := 3) (N := some 91) (v := ?_) (a' := ?_) #[true, true, true, true, false, false, false, false, false, false, false, false, false, false] rfl rfl (any_of HT_.out (by kernel_rfl)) (fun _ _ _ h => h) (Or.inl ⟨by rfl, ?_⟩) ?_ ?_
                        rotate_left
                        ·intro w'
                         go_simp
                         with_reducible rfl
                        rotate_left
                        ·simp only [Act.put, List.setIfInBounds_toArray, List.set_cons_zero, List.set_cons_succ, i64_w, i32_w]
                         rfl
                        refine pure_ (i := 4) (N := some 92) (v := ?_) (a' := ?_) #[true, true, true, true, true, false, false, false, false, false, false, false, false, false] rfl rfl (any_of HT_.out (by kernel_rfl)) (fun _ _ _ h => h) (Or.inl ⟨by rfl, ?_⟩) ?_ ?_
                        rotate_left
                        ·intro w'
                         go_simp
                         with_reducible rfl
                        rotate_left
                        ·simp only [Act.put, List.setIfInBounds_toArray, List.set_cons_zero, List.set_cons_succ, i64_w, i32_w]
                         rfl
                        refine pure_ (i := 6) (N := some 94) (v := ?_) (a' := ?_) #[true, true, true, true, true, false, true, false, false, false, false, false, false, false] rfl rfl (any_of HT_.out (by kernel_rfl)) (fun _ _ _ h => h) (Or.inl ⟨by rfl, ?_⟩) ?_ ?_
                        rotate_left
                        ·intro w'
                         go_simp
                         with_reducible rfl
                        rotate_left
                        ·simp only [Act.put, List.setIfInBounds_toArray, List.set_cons_zero, List.set_cons_succ, i64_w, i32_w]
                         rfl
                        refine pure_ (i := 7) (N := some 95) (v := ?_) (a' := ?_) #[true, true, true, true, true, false, true, true, false, false, false, false, false, false] rfl rfl (any_of HT_.out (by kernel_rfl)) (fun _ _ _ h => h) (Or.inl ⟨by rfl, ?_⟩) ?_ ?_
                        rotate_left
                        ·intro w'
                         go_simp
                         with_reducible rfl
                        rotate_left
                        ·simp only [Act.put, List.setIfInBounds_toArray, List.set_cons_zero, List.set_cons_succ, i64_w, i32_w]
                         rfl
                        refine pure_ (i := 8) (N := some 96) (v := ?_) (a' := ?_) #[true, true, true, true, true, false, true, true, true, false, false, false, false, false] rfl rfl (any_of HT_.out (by kernel_rfl)) (fun _ _ _ h => h) (Or.inl ⟨by rfl, ?_⟩) ?_ ?_
                        rotate_left
                        ·intro w'
                         go_simp
                         with_reducible rfl
                        rotate_left
                        ·simp only [Act.put, List.setIfInBounds_toArray, List.set_cons_zero, List.set_cons_succ, i64_w, i32_w]
                         rfl
                        refine pure_ (i := 10) (N := some 98) (v := ?_) (a' := ?_) #[true, true, true, true, true, false, true, true, true, false, true, false, false, false] rfl rfl (any_of HT_.out (by kernel_rfl)) (fun _ _ _ h => h) (Or.inl ⟨by rfl, ?_⟩) ?_ ?_
                        rotate_left
                        ·intro w'
                         go_simp
                         with_reducible rfl
                        rotate_left
                        ·simp only [Act.put, List.setIfInBounds_toArray, List.set_cons_zero, List.set_cons_succ, i64_w, i32_w]
                         rfl
                        refine take_ (i := 5) (N := some 93) (v := ?_) (a' := ?_) #[true, true, true, true, true, true, true, true, true, false, true, false, false, false] rfl rfl (take_ofW HT_.out HW_.out (by kernel_rfl)) (fun _ _ _ h => h) (Or.inl ⟨by rfl, ?_⟩) hHeld ?_ ?_
                        rotate_left
                        ·rintro w' ⟨s0, s1⟩
                         go_simp
                         with_reducible rfl
                        rotate_left
                        ·simp only [Act.put, List.setIfInBounds_toArray, List.set_cons_zero, List.set_cons_succ, i64_w, i32_w]
                         rfl
                        refine take_ (i := 9) (N := some 97) (v := ?_) (a' := ?_) #[true, true, true, true, true, true, true, true, true, true, true, false, false, false] rfl rfl (take_ofW HT_.out HW_.out (by kernel_rfl)) (fun _ _ _ h => h) (Or.inl ⟨by rfl, ?_⟩) hHeld ?_ ?_
                        rotate_left
                        ·rintro w' ⟨s0, s1⟩
                         go_simp
                         with_reducible rfl
                        rotate_left
                        ·simp only [Act.put, List.setIfInBounds_toArray, List.set_cons_zero, List.set_cons_succ, i64_w, i32_w]
                         rfl
                        refine one_ (i := 11) (N := some 99) #[true, true, true, true, true, true, true, true, true, true, true, true, false, false] rfl rfl (one_of HT_.out (by kernel_rfl)) (by decide) (fun K hK => ?_)
                        refine goes_ Try.func88 (by kernel_rfl) rfl #[.slice A252_0 (rd_L1 x5_4 x11_4).length c252_0, .slice A253_0 (rd_L1 x5_4 x7_2).length c253_0, .int .i64 x8_2] (by rfl) rfl rfl (by (try simp only [List.map_toArray, List.map_cons, List.map_nil]);first|done|rfl|(simp only [List.length_drop, List.length_take];rfl)) ?_
                        with_reducible refine (spec_l5Clear.calls k4 _ _ (rd_L1 x5_4 x11_4) _ _ (rd_L1 x5_4 x7_2) x8_2 t254 _ ?side1 ?side2 ?side3 ?side4 A45.out).mono ?_
                        (case side1 => repeat (first|exact (by repeat (first|(with_reducible exact HR252_0.out)|(with_reducible refine Kd.C_alloc ?_ _)|(with_reducible refine Kd.C_drewN ?_ _)|(with_reducible refine Kd.C_drew ?_)|exact HR252_0.out))|(with_reducible refine Kd.C_alloc ?_ _)|(with_reducible refine Kd.C_drewN ?_ _)|(with_reducible refine Kd.C_drew ?_)))
                        (case side2 => exact HC252_0.out)
                        (case side3 => repeat (first|exact (by repeat (first|(with_reducible exact HR253_0.out)|(with_reducible refine Kd.C_alloc ?_ _)|(with_reducible refine Kd.C_drewN ?_ _)|(with_reducible refine Kd.C_drew ?_)|exact HR253_0.out))|(with_reducible refine Kd.C_alloc ?_ _)|(with_reducible refine Kd.C_drewN ?_ _)|(with_reducible refine Kd.C_drew ?_)))
                        (case side4 => exact HC253_0.out)
                        rintro e w48 ⟨v255, rfl, ho0, hb⟩
                        obtain ⟨A255v, c255v, ev255, _, _⟩ := Kd.R_reads ho0
                        subst ev255
                        have HS0_ := (hb.cell (World.block_lt_of_cell? _ _ (hHeld.1))).trans (hHeld.1)
                        have HS1_ := (hb.cell (World.block_lt_of_cell? _ _ (hHeld.2))).trans (hHeld.2)
                        refine ⟨_, rfl, ?_⟩
                        have n0_ := Aside0.mk (Kd.N_elder' (by (with_reducible repeat (first|apply Kd.N_alloc|apply Kd.N_drewN|apply Kd.N_drew));exact HO_5.out) (Kd.R_base ho0) hb)
                        have n1_ := Aside0.mk (Kd.V_elder' (by (with_reducible repeat (first|apply Kd.V_alloc|apply Kd.V_drewN|apply Kd.V_drew));exact HL250_0.out) (Kd.R_base ho0) hb)
                        have n2_ := Aside0.mk (Kd.V_elder' (by (with_reducible repeat (first|apply Kd.V_alloc|apply Kd.V_drewN|apply Kd.V_drew));exact HL252_0.out) (Kd.R_base ho0) hb)
                        have n3_ := Aside0.mk (Kd.V_elder' (by (with_reducible repeat (first|apply Kd.V_alloc|apply Kd.V_drewN|apply Kd.V_drew));exact HL253_0.out) (Kd.R_base ho0) hb)
                        have n4_ := Aside0.mk (Kd.R_lower (Kd.R_newM (M := fun k_ => (w.heap.size ≤ k_)) ho0 (below_size (by repeat first|(with_reducible first|exact HB.out|apply below_alloc|apply pw_below_drewN|apply below_drew1)|exact HB.out)) (fun k_ h_ => h_)) (below_size (by repeat first|(with_reducible first|exact HB.out|apply below_alloc|apply pw_below_drewN|apply below_drew1)|exact HB.out)))
                        have n5_ := Aside0.mk (Kd.C_below (by repeat (first|(with_reducible exact HR250_0.out)|(with_reducible refine Kd.C_alloc ?_ _)|(with_reducible refine Kd.C_drewN ?_ _)|(with_reducible refine Kd.C_drew ?_)|exact HR250_0.out)) hb)
                        have n6_ := Aside0.mk (Kd.C_below (by repeat (first|(with_reducible exact HR252_0.out)|(with_reducible refine Kd.C_alloc ?_ _)|(with_reducible refine Kd.C_drewN ?_ _)|(with_reducible refine Kd.C_drew ?_)|exact HR252_0.out)) hb)
                        have n7_ := Aside0.mk (Kd.C_below (by repeat (first|(with_reducible exact HR253_0.out)|(with_reducible refine Kd.C_alloc ?_ _)|(with_reducible refine Kd.C_drewN ?_ _)|(with_reducible refine Kd.C_drew ?_)|exact HR253_0.out)) hb)
                        have n8_ := Aside0.mk (below_step (by repeat first|(with_reducible first|exact HB.out|apply below_alloc|apply pw_below_drewN|apply below_drew1)|exact HB.out) hb)
                        clear HO_5
                        clear HL250_0
                        clear HL252_0
                        clear HL253_0
                        clear HR250_0
                        clear HR252_0
                        clear HR253_0
                        clear HB
                        have HO_5 := n0_
                        have HL250_0 := n1_
                        have HL252_0 := n2_
                        have HL253_0 := n3_
                        have HO256 := n4_
                        have HR250_0 := n5_
                        have HR252_0 := n6_
                        have HR253_0 := n7_
                        have HB := n8_
                        clear n0_ n1_ n2_ n3_ n4_ n5_ n6_ n7_ n8_
                        (try clear hb)
                        (try clear hb2)
                        (try clear hk)
                        (try clear hi)
                        (try clear ho0)
                        have p46 : 0 ≤ (x11_4 : Int) := of_decide_eq_true (by first|(with_reducible assumption)|assumption)
                        have q46 : (x11_4 : Int) < ((x5_4.length : Int) : Int) := of_decide_eq_true (by first|(with_reducible assumption)|assumption)
                        obtain ⟨ce46, hcl46, hM46, hcc46, hfr46⟩ := Kd.N_elem HO_5.out [] (x11_4 : Int) p46 q46
                        obtain ⟨ua46_0, uc46_0, rfl, ul46_0, ge46_0⟩ := Kd.FK_slice_open hM46
                        have hx46_0 := hcc46 0 _ rfl
                        have hf46_0 := hfr46 0
                        (try simp only [show ((Kd.slice 3 (Kd.int .i64))).sz = 1 from rfl, Nat.mul_one, Nat.add_zero] at hx46_0)
                        (try simp only [show ((Kd.slice 3 (Kd.int .i64))).sz = 1 from rfl, Nat.mul_one, Nat.add_zero] at hf46_0)
                        clear hcl46 hcc46 hfr46;(try clear hM46)
                        replace p46 := eq_true p46
                        replace q46 := eq_true q46
                        have HX49 := Aside0.mk (show Kd.N (Kd.slice 3 (Kd.int .i64)) 23 _ w.heap.size (fun k_ => (w.heap.size ≤ k_) ∧ some k_ ≠ ((.slice A255v t254.length c255v : Value) : Value).ownBlock) (.slice (some ⟨go28, 0, none⟩) x5_4.length co31) x5_4 from (Kd.N_mono (HO_5.out) (fun k_ hk => ⟨hk.1, hk.2⟩)))
                        replace HX49 := Aside0.mk (show Kd.N (Kd.slice 3 (Kd.int .i64)) 23 _ w.heap.size (fun k_ => (w.heap.size ≤ k_)) (.slice (some ⟨go28, 0, none⟩) x5_4.length co31) x5_4 from Kd.N_mono HX49.out (fun k_ hk => hk.1))
                        obtain ⟨ce49, hcl49, hM49, hcc49, hfr49⟩ := Kd.N_elem HX49.out [] (x11_4 : Int) (of_decide_eq_true (by first|(with_reducible assumption)|assumption)) (by have h_ : (x11_4 : Int) < ((x5_4.length : Int) : Int) := of_decide_eq_true (by first|(with_reducible assumption)|assumption);first|exact h_|(have e_ := (Kd.N_reads' HO_5.out).1;omega)|simpa using h_)
                        obtain ⟨ua49_0, uc49_0, rfl, ul49_0, ge49_0⟩ := Kd.FK_slice_open hM49
                        have HP49 := (Kd.N_seg HX49.out (x11_4 : Int) (of_decide_eq_true (by first|(with_reducible assumption)|assumption)) (by have h_ : (x11_4 : Int) < ((x5_4.length : Int) : Int) := of_decide_eq_true (by first|(with_reducible assumption)|assumption);first|exact h_|(have e_ := (Kd.N_reads' HO_5.out).1;omega)|simpa using h_) (seg := [(.slice A255v t254.length c255v : Value)]) (j := 0) hcl49 hcc49 (show 1 ≤ 1 from by decide) (x' := t254) (Kd.FK_slice_mk (Kd.R_reads' (Kd.R_mono (ok' := (fun k_ => ((fun k_ => (w.heap.size ≤ k_))) k_ ∧ k_ ≠ go28)) (Kd.R_apart' (HO256.out) (Kd.N_typed HO_5.out) (by decide)) (fun k_ hk => ⟨hk.1.1, fun e_ => (hk.2) (by rw [e_];rfl)⟩))).2.1 (Kd.R_F (Kd.R_mono (ok' := (fun k_ => ((fun k_ => (w.heap.size ≤ k_))) k_ ∧ k_ ≠ go28)) (Kd.R_apart' (HO256.out) (Kd.N_typed HO_5.out) (by decide)) (fun k_ hk => ⟨hk.1.1, fun e_ => (hk.2) (by rw [e_];rfl)⟩)))) (fun _ hk => hk)).1
                        (try simp only [show ((Kd.slice 3 (Kd.int .i64))).sz = 1 from rfl, Nat.mul_one, Nat.add_zero] at HP49)
                        rw [← Ny257.out] at HP49
                        have HQ49 := Aside0.mk HP49
                        clear hcl49 hcc49 hfr49 HP49;(try clear hM49)
                        refine hK.out _ _ ⟨HS0_, HS1_⟩ (fun hHeld => ?_)
                        clear hK K
                        refine norm_ (a' := ?_) ?_ ?_
                        rotate_left
                        ·show Act.put _ (some 99) _ = _
                         simp only [Act.put, List.setIfInBounds_toArray, List.set_cons_zero, List.set_cons_succ, i64_w, i32_w]
                         rfl
                        refine pure_ (i := 12) (N := some 100) (v := ?_) (a' := ?_) #[true, true, true, true, true, true, true, true, true, true, true, true, true, false] rfl rfl (any_of HT_.out (by kernel_rfl)) (fun _ _ _ h => h) (Or.inl ⟨by rfl, ?_⟩) ?_ ?_
                        rotate_left
                        ·intro w'
                         go_simp
                         with_reducible rfl
                        rotate_left
                        ·simp only [Act.put, List.setIfInBounds_toArray, List.set_cons_zero, List.set_cons_succ, i64_w, i32_w]
                         rfl
                        refine last_ (i := 13) (N := none) #[true, true, true, true, true, true, true, true, true, true, true, true, true, true] rfl rfl (one_of HT_.out (by kernel_rfl)) (by decide) (fun K hK => ?_)
                        refine skip_ (w1 := ?_) (by rfl) rfl ?_ ?_
                        rotate_left
                        ·go_simp
                         rfl
                        refine hK.out _ _ ?_
                        clear hK K
                        refine done_ (done_of HT_.out (by kernel_rfl)) ?_
                        try go_wp2
                        (try simp only [← hl5_4])
                        go_roundg k4
                        case measure => have := HK1.out;have := HK2.out;have := HJ12.out;have := HK4.out;omega
                        case rel => exact ⟨(y257), (wrap64 (x11_4 + 1)), (by first|rfl|(simp;done)|(simp [*];done)), H', ⟨by have := HK1.out;have := HK2.out;have := HJ12.out;have := HK4.out;omega⟩, ⟨by (try simp only [hl5_4]);(with_reducible repeat (first|apply Kd.N_alloc|apply Kd.N_drewN|apply Kd.N_drew));exact HQ49.out⟩, ⟨by repeat (first|(with_reducible first|exact HB.out|apply below_alloc|apply pw_below_drewN|apply below_drew1|refine below_set ?_ GB28.out)|exact HB.out)⟩⟩
                       ·rw [if_neg c44] at H
                        exact absurd H (by simp)
                      ·rw [if_neg c43] at H
                       exact absurd H (by simp)
                    ·rw [if_neg c41] at H
                     exact absurd H (by simp)
                   ·rw [if_neg c40] at H
                    exact absurd H (by simp)
                  ·rw [if_neg c39] at H
                   exact absurd H (by simp)
                ·rw [if_neg c37] at H
                 have c37b0 : decide (x11_4 < (x5_4.length : Int)) = false := decide_eq_false c37
                 clear c37
                 have H' := Aside0.mk H
                 clear H
                 go_wp2
                 (try simp only [← hl5_4])
                 go_roundg k4
                 case measure => have := HK1.out;have := HK2.out;have := HJ12.out;have := HK4.out;omega
                 case rel => exact ⟨(x5_4), (wrap64 (x7_2 + 1)), (wrap64 (x8_2 + 1)), (by first|rfl|(simp;done)|(simp [*];done)), (by first|rfl|(simp;done)|(simp [*];done)), H', ⟨by have := HK1.out;have := HK2.out;have := HJ12.out;have := HK4.out;omega⟩, ⟨by (try simp only [hl5_4]);(with_reducible repeat (first|apply Kd.N_alloc|apply Kd.N_drewN|apply Kd.N_drew));exact HO_5.out⟩, ⟨by repeat (first|(with_reducible first|exact HB.out|apply below_alloc|apply pw_below_drewN|apply below_drew1)|exact HB.out)⟩⟩
             ·rw [if_neg c27] at H
              exact absurd H (by simp)
            ·rw [if_neg c26] at H
             exact absurd H (by simp)
           ·rw [if_neg c25] at H
            exact absurd H (by simp)
          ·rw [if_neg c24] at H
           exact absurd H (by simp)
      ·rw [if_neg c12] at H
       have c12b0 : decide (x8_2 < a1) = false := decide_eq_false c12
       clear c12
       obtain rfl := Option.some.inj H
       go_wp2
       go_ret
       exact ⟨_, by first|rfl|(simp [errW_none, errW_some] <;> rfl)|(simp [*, errW_none, errW_some] <;> rfl), by (with_reducible repeat (first|apply Kd.N_alloc|apply Kd.N_drewN|apply Kd.N_drew));exact HO_5.out, by repeat (first|(with_reducible first|exact HB.out|apply below_alloc|apply pw_below_drewN|apply below_drew1)|exact HB.out)⟩
end Go.Proofs.Ytojkepidkmkmpaa.PFnExactSolutionOf
end
section
namespace Go.Proofs.Ytojkepidkmkmpaa.PFnExactSolutionOf
open Go.RowKit Go.Proofs.YtojkepidkmkmpaaW.PrintWords Go.Proofs.YtojkepidkmkmpaaW.PrintLast Go.Proofs.YtojkepidkmkmpaaW.PrintMore
attribute [local go_sem] max2_int min2_int max_two min_two max_three min_three max_four min_four
set_option linter.unusedVariables false
set_option linter.unusedSimpArgs false
def spec_l6Rows.l0 : Nat → List (List Int) → List Int → Int → List (List Int) → Int → Option ((List (List Int)))
 | 0, _, _, _, _, _ => none
 | k + 1, x0, x1, x2, x7, x8 => if x8 < (x0.length : Int) then ((some (([] : List Int) : List Int)).bind fun y261 => (if 0 ≤ x8 then (if y261.length + (rd_L1 x0 x8).length < 17592186044416 then ((some (y261 ++ (rd_L1 x0 x8) : List Int)).bind fun y265 => (if x8 < (x1.length : Int) then ((some (([rd x1 x8] : List Int) : List Int)).bind fun y269 => (if y265.length + y269.length < 17592186044416 then ((some (([(y265 ++ y269)] : List (List Int)) : List (List Int))).bind fun y275 => (if x7.length + y275.length < 5864062014805 then (spec_l6Rows.l0 k x0 x1 x2 (x7 ++ y275) (wrap64 (x8 + 1))) else (none))) else (none))) else (none))) else (none)) else (none))) else ((spec_l5Reduce.f k x7 x2).bind fun t281 => (some t281))
def spec_l6Rows.f (k : Nat) (l0 : List (List Int)) (l1 : List Int) (a2 : Int) : Option ((List (List Int))) := spec_l6Rows.l0 k l0 l1 a2 (([] : List (List Int))) 0
theorem spec_l6Rows.mono_l : ∀ k, (∀ y0 y1 y2 y3 y4, LeO (spec_l6Rows.l0 k y0 y1 y2 y3 y4) (spec_l6Rows.l0 (k + 1) y0 y1 y2 y3 y4))
|0 => fun _ _ _ _ _ r h => by simp [spec_l6Rows.l0] at h
|k + 1 => by
  have ih0 := spec_l6Rows.mono_l k
  ·intro y0 y1 y2 y3 y4
   unfold spec_l6Rows.l0
   repeat' first
  |(with_reducible exact ih0 _ _ _ _ _)
  |(with_reducible exact spec_l5Reduce.mono _ _ _)
  |(with_reducible exact LeO.refl _)
  |(with_reducible exact LeO.none _)
  |(with_reducible refine LeO.ite ?_ ?_)
  |(with_reducible refine LeO.bind ?_ (fun _ => ?_))
  |exact ih0 _ _ _ _ _
  |exact spec_l5Reduce.mono _ _ _
  |exact LeO.none _
  |refine LeO.ite ?_ ?_
  |refine LeO.bind ?_ (fun _ => ?_)
theorem spec_l6Rows.mono : ∀ a0 a1 a2 k, LeO (spec_l6Rows.f k a0 a1 a2) (spec_l6Rows.f (k + 1) a0 a1 a2) := by
 intro a0 a1 a2 k
 have ih0 := spec_l6Rows.mono_l k
 unfold spec_l6Rows.f
 repeat' first
  |(with_reducible exact ih0 _ _ _ _ _)
  |(with_reducible exact spec_l5Reduce.mono _ _ _)
  |(with_reducible exact LeO.refl _)
  |(with_reducible exact LeO.none _)
  |(with_reducible refine LeO.ite ?_ ?_)
  |(with_reducible refine LeO.bind ?_ (fun _ => ?_))
  |exact ih0 _ _ _ _ _
  |exact spec_l5Reduce.mono _ _ _
  |exact LeO.none _
  |refine LeO.ite ?_ ?_
  |refine LeO.bind ?_ (fun _ => ?_)
def spec_l6Rows.T5 : Bool × List (List Nat × List Nat) := (true, [([], []), ([], []), ([], []), ([], []), ([2, 3], [2, 3]), ([4], [4]), ([1, 5], [1, 5]), ([], []), ([], []), ([7, 8], [7, 8]), ([9], [9]), ([10], [10]), ([6, 11, 6], [6, 11]), ([12], [12]), ([0, 13, 12], [0, 13]), ([14, 14, 0, 1, 2, 3, 4, 5, 6, 7, 8, 9, 10, 11, 12, 13, 14], [0, 14])])
def spec_l6Rows.B5 : List Nat := [0, 0, 0, 0, 12, 28, 62, 0, 0, 384, 896, 1920, 4094, 8190, 16383, 32767]
theorem spec_l6Rows.tab5 : rtab .any (opsOf Try.f68 5) = spec_l6Rows.T5 := by kernel_rfl
theorem spec_l6Rows.bits5 : waitsOk spec_l6Rows.T5.2 spec_l6Rows.B5 = true := by kernel_rfl
set_option maxHeartbeats 8000000 in
set_option maxRecDepth 100000 in
theorem spec_l6Rows.calls (k : Nat) (A0 : Option Addr) (c0 : Nat) (l0 : List (List Int)) (A1 : Option Addr) (c1 : Nat) (l1 : List Int) (a2 : Int) (r : List (List Int)) (w : World) (hr0 : Kd.C (Kd.slice 3 (Kd.int .i64)) w A0 l0.length l0) (hc0 : l0.length ≤ c0) (hr1 : Kd.C (Kd.int .i64) w A1 l1.length l1) (hc1 : l1.length ≤ c1) (h : spec_l6Rows.f k l0 l1 a2 = some r) :
  Calls Try.prog 68 #[.slice A0 l0.length c0, .slice A1 l1.length c1, .int .i64 a2] w fun e w' => ∃ v0_ : Value, e = .returned (v0_) ∧ Kd.N (Kd.slice 3 (Kd.int .i64)) 23 w' w.heap.size (fun k_ => (w.heap.size ≤ k_)) v0_ r ∧ Below w.heap.size w w' := by
 have HR0 := Aside0.mk hr0
 have HC0 := Aside0.mk hc0
 clear hr0 hc0
 have HR1 := Aside0.mk hr1
 have HC1 := Aside0.mk hc1
 clear hr1 hc1
 have HB := Aside0.mk (Below.refl w.heap.size w)
 have H : (spec_l6Rows.l0 k l0 l1 a2 (([] : List (List Int))) 0) = some r := h
 clear h
 obtain ⟨y258, hy258⟩ : ∃ y_ : List (List Int), y_ = (([] : List (List Int))) := ⟨_, rfl⟩
 replace H : (spec_l6Rows.l0 k l0 l1 a2 y258 0) = some r := by first|(rw [hy258];with_reducible exact H)|(have H2_ := (Option.bind_some _ _).symm.trans H;rw [hy258];with_reducible exact H2_)|(have H2_ := (Option.bind_some _ _).symm.trans H;with_reducible exact H2_)|with_reducible exact H|(rw [hy258];exact H)|exact H
 have Ny258 := Aside0.mk hy258
 clear hy258
 have H' := Aside0.mk H
 clear H
 go_enter Try.func68, Try.ntmps68
 go_wp2_with (first|((with_reducible refine gate_dst (N := 9) rfl ?_);refine Kd.N_lit (Kd.slice 3 (Kd.int .i64)) _ 23 ?hg (N' := 9) ?hd (xs := ([] : List (List Int))) (inner := []) (ok := (fun k_ => (w.heap.size ≤ k_))) (okp := (fun k_ => (w.heap.size ≤ k_))) ?hr ?hp (fun _ hk => hk) ((show ∀ k_, w.heap.size ≤ k_ → (fun k_ => (w.heap.size ≤ k_)) k_ from fun k_ hk => (Nat.le_trans (below_size (by repeat first|(with_reducible first|exact HB.out|apply below_alloc|apply pw_below_drewN|apply below_drew1)|exact HB.out)) hk)) _ (Nat.le_refl _)) (Below.refl _ _) (Nat.le_refl _) (by simp) ?_;(case hd => rfl);(case hg => rfl);(case hr => first|(go_simp;done)|(go_simp;rfl));(case hp => exact (Reps.none _ _));intro v259 w4 ho5 hb hg_ hnew_;clear hg_ hnew_;(first|rw [← Ny258.out] at ho5|(simp only [Int.reduceToNat] at ho5;rw [← Ny258.out] at ho5));have n0_ := Aside0.mk (Kd.N_lower ho5 (below_size (by repeat first|(with_reducible first|exact HB.out|apply below_alloc|apply pw_below_drewN|apply below_drew1)|exact HB.out)));have n1_ := Aside0.mk (below_step (by repeat first|(with_reducible first|exact HB.out|apply below_alloc|apply pw_below_drewN|apply below_drew1)|exact HB.out) hb);clear HB;have HO260 := n0_;have HB := n1_;clear n0_ n1_;clear hb ho5))
 go_loopg [7, 8] k (fun kq v7 v8 w' => ∃ (x7_1 : List (List Int)) (x8_1 : Int), v8 = .int .i64 x8_1 ∧ Aside0 (spec_l6Rows.l0 kq l0 l1 a2 x7_1 x8_1 = some r) ∧ Aside0 (kq ≤ k) ∧ Aside0 (Kd.N (Kd.slice 3 (Kd.int .i64)) 23 w' w.heap.size (fun k_ => (w.heap.size ≤ k_)) v7 x7_1) ∧ Aside0 (Below w.heap.size w w'))
 case atStart => exact ⟨(y258), (0), (by first|rfl|(simp;done)|(simp [*];done)), H', ⟨Nat.le_refl _⟩, ⟨by (with_reducible repeat (first|apply Kd.N_alloc|apply Kd.N_drewN|apply Kd.N_drew));exact HO260.out⟩, ⟨by repeat (first|(with_reducible first|exact HB.out|apply below_alloc|apply pw_below_drewN|apply below_drew1)|exact HB.out)⟩⟩
 case round =>
  clear H'
  try clear c1
  try clear p2
  obtain ⟨x7_1, x8_1, rfl, HA, HK1, HO_7, HB⟩ := hrel
  cases gk with
 |zero => exact absurd HA.out (by simp [spec_l6Rows.l0])
 |succ k1 =>
   have H := HA.out
   clear HA
   simp only [spec_l6Rows.l0] at H
   by_cases c6 : x8_1 < (l0.length : Int)
   ·rw [if_pos c6] at H
    have c6b0 : decide (x8_1 < (l0.length : Int)) = true := decide_eq_true c6
    clear c6
    obtain ⟨y261, hy261⟩ : ∃ y_ : List Int, y_ = (([] : List Int)) := ⟨_, rfl⟩
    replace H : (if 0 ≤ x8_1 then (if y261.length + (rd_L1 l0 x8_1).length < 17592186044416 then ((some (y261 ++ (rd_L1 l0 x8_1) : List Int)).bind fun y265 => (if x8_1 < (l1.length : Int) then ((some (([rd l1 x8_1] : List Int) : List Int)).bind fun y269 => (if y265.length + y269.length < 17592186044416 then ((some (([(y265 ++ y269)] : List (List Int)) : List (List Int))).bind fun y275 => (if x7_1.length + y275.length < 5864062014805 then (spec_l6Rows.l0 k1 l0 l1 a2 (x7_1 ++ y275) (wrap64 (x8_1 + 1))) else (none))) else (none))) else (none))) else (none)) else (none)) = some r := by first|(rw [hy261];with_reducible exact H)|(have H2_ := (Option.bind_some _ _).symm.trans H;rw [hy261];with_reducible exact H2_)|(have H2_ := (Option.bind_some _ _).symm.trans H;with_reducible exact H2_)|with_reducible exact H|(rw [hy261];exact H)|exact H
    have Ny261 := Aside0.mk hy261
    clear hy261
    by_cases c7 : 0 ≤ x8_1
    ·rw [if_pos c7] at H
     have c7b0 : decide (0 ≤ x8_1) = true := decide_eq_true c7
     clear c7
     by_cases c8 : y261.length + (rd_L1 l0 x8_1).length < 17592186044416
     ·rw [if_pos c8] at H
      have LMc8 := Aside0.mk c8
      clear c8
      obtain ⟨y265, hy265⟩ : ∃ y_ : List Int, y_ = (y261 ++ (rd_L1 l0 x8_1)) := ⟨_, rfl⟩
      replace H : (if x8_1 < (l1.length : Int) then ((some (([rd l1 x8_1] : List Int) : List Int)).bind fun y269 => (if y265.length + y269.length < 17592186044416 then ((some (([(y265 ++ y269)] : List (List Int)) : List (List Int))).bind fun y275 => (if x7_1.length + y275.length < 5864062014805 then (spec_l6Rows.l0 k1 l0 l1 a2 (x7_1 ++ y275) (wrap64 (x8_1 + 1))) else (none))) else (none))) else (none)) = some r := by first|(rw [hy265];with_reducible exact H)|(have H2_ := (Option.bind_some _ _).symm.trans H;rw [hy265];with_reducible exact H2_)|(have H2_ := (Option.bind_some _ _).symm.trans H;with_reducible exact H2_)|with_reducible exact H|(rw [hy265];exact H)|exact H
      have Ny265 := Aside0.mk hy265
      clear hy265
      by_cases c9 : x8_1 < (l1.length : Int)
      ·rw [if_pos c9] at H
       have c9b0 : decide (x8_1 < (l1.length : Int)) = true := decide_eq_true c9
       clear c9
       obtain ⟨y269, hy269⟩ : ∃ y_ : List Int, y_ = (([rd l1 x8_1] : List Int)) := ⟨_, rfl⟩
       replace H : (if y265.length + y269.length < 17592186044416 then ((some (([(y265 ++ y269)] : List (List Int)) : List (List Int))).bind fun y275 => (if x7_1.length + y275.length < 5864062014805 then (spec_l6Rows.l0 k1 l0 l1 a2 (x7_1 ++ y275) (wrap64 (x8_1 + 1))) else (none))) else (none)) = some r := by first|(rw [hy269];with_reducible exact H)|(have H2_ := (Option.bind_some _ _).symm.trans H;rw [hy269];with_reducible exact H2_)|(have H2_ := (Option.bind_some _ _).symm.trans H;with_reducible exact H2_)|with_reducible exact H|(rw [hy269];exact H)|exact H
       have Ny269 := Aside0.mk hy269
       clear hy269
       by_cases c10 : y265.length + y269.length < 17592186044416
       ·rw [if_pos c10] at H
        have LMc10 := Aside0.mk c10
        clear c10
        obtain ⟨y272, hy272⟩ : ∃ y_ : List Int, y_ = (y265 ++ y269) := ⟨_, rfl⟩
        replace H : ((some (([y272] : List (List Int)) : List (List Int))).bind fun y275 => (if x7_1.length + y275.length < 5864062014805 then (spec_l6Rows.l0 k1 l0 l1 a2 (x7_1 ++ y275) (wrap64 (x8_1 + 1))) else (none))) = some r := by first|(rw [hy272];with_reducible exact H)|(have H2_ := (Option.bind_some _ _).symm.trans H;rw [hy272];with_reducible exact H2_)|(have H2_ := (Option.bind_some _ _).symm.trans H;with_reducible exact H2_)|with_reducible exact H|(rw [hy272];exact H)|exact H
        have Ny272 := Aside0.mk hy272
        clear hy272
        obtain ⟨y275, hy275⟩ : ∃ y_ : List (List Int), y_ = (([y272] : List (List Int))) := ⟨_, rfl⟩
        replace H : (if x7_1.length + y275.length < 5864062014805 then (spec_l6Rows.l0 k1 l0 l1 a2 (x7_1 ++ y275) (wrap64 (x8_1 + 1))) else (none)) = some r := by first|(rw [hy275];with_reducible exact H)|(have H2_ := (Option.bind_some _ _).symm.trans H;rw [hy275];with_reducible exact H2_)|(have H2_ := (Option.bind_some _ _).symm.trans H;with_reducible exact H2_)|with_reducible exact H|(rw [hy275];exact H)|exact H
        have Ny275 := Aside0.mk hy275
        clear hy275
        by_cases c11 : x7_1.length + y275.length < 5864062014805
        ·rw [if_pos c11] at H
         have LMc11 := Aside0.mk c11
         clear c11
         obtain ⟨y278, hy278⟩ : ∃ y_ : List (List Int), y_ = (x7_1 ++ y275) := ⟨_, rfl⟩
         replace H : (spec_l6Rows.l0 k1 l0 l1 a2 y278 (wrap64 (x8_1 + 1))) = some r := by first|(rw [hy278];with_reducible exact H)|(have H2_ := (Option.bind_some _ _).symm.trans H;rw [hy278];with_reducible exact H2_)|(have H2_ := (Option.bind_some _ _).symm.trans H;with_reducible exact H2_)|with_reducible exact H|(rw [hy278];exact H)|exact H
         have Ny278 := Aside0.mk hy278
         clear hy278
         have H' := Aside0.mk H
         clear H
         obtain ⟨Ao12, co12, eo12⟩ := Kd.N_slice HO_7.out
         subst eo12
         try go_wp2
         have n0_ := Aside0.mk (Kd.N_drew HO_7.out)
         have n1_ := Aside0.mk (below_drew1 HB.out)
         clear HO_7
         clear HB
         have HO_7 := n0_
         have HB := n1_
         clear n0_ n1_
         have p264 : 0 ≤ (x8_1 : Int) := of_decide_eq_true (by first|(with_reducible assumption)|assumption)
         have q264 : x8_1 < (l0.length : Int) := of_decide_eq_true (by first|(with_reducible assumption)|assumption)
         obtain ⟨ad264, A264_0, c264_0, e264, hx264_0, hl264_0, hi264_0⟩ := at_L1 HR0.out x8_1 p264 q264
         have hw264_0 := hx264_0
         cases e264
         replace hx264_0 := (HB.out.cell (World.block_lt_of_cell? w _ hx264_0)).trans hx264_0
         have HR264_0 := Aside0.mk hi264_0
         have HC264_0 := Aside0.mk hl264_0
         clear hi264_0 hl264_0
         replace p264 := eq_true p264
         replace q264 := eq_true q264
         have p268 : 0 ≤ (x8_1 : Int) := of_decide_eq_true (by first|(with_reducible assumption)|assumption)
         have q268 : x8_1 < (l1.length : Int) := of_decide_eq_true (by first|(with_reducible assumption)|assumption)
         obtain ⟨ad268, e268, hx268_0⟩ := Kd.at_int HR1.out x8_1 p268 q268
         have hw268_0 := hx268_0
         cases e268
         replace hx268_0 := (HB.out.cell (World.block_lt_of_cell? w _ hx268_0)).trans hx268_0
         replace p268 := eq_true p268
         replace q268 := eq_true q268
         refine start_ (n := 16) (S := fun w' => w'.cell? (ad264.add (x8_1).toNat) = some (.slice A264_0 (rd_L1 l0 x8_1).length c264_0) ∧ w'.cell? (ad268.add (x8_1).toNat) = some (.int .i64 (rd l1 x8_1))) (ds := []) #[false, false, false, false, false, false, false, false, false, false, false, false, false, false, false, false] (by kernel_rfl) rfl rfl ⟨((HB.out.cell (World.block_lt_of_cell? w _ hw264_0)).trans hw264_0), ((HB.out.cell (World.block_lt_of_cell? w _ hw268_0)).trans hw268_0)⟩ (fun hHeld => ?_);refine with_tabW spec_l6Rows.tab5 spec_l6Rows.bits5 (fun HT_ HW_ => ?_)
         generalize wr.drew = w13 at HO_7 HB HR264_0 hx264_0 hx268_0 hHeld ⊢
         refine pure_ (i := 0) (N := some 16) (v := ?_) (a' := ?_) #[true, false, false, false, false, false, false, false, false, false, false, false, false, false, false, false] rfl rfl (any_of HT_.out (by kernel_rfl)) (fun _ _ _ h => h) (Or.inl ⟨by rfl, ?_⟩) ?_ ?_
         rotate_left
         ·intro w'
          go_simp
          with_reducible rfl
         rotate_left
         ·simp only [Act.put, List.setIfInBounds_toArray, List.set_cons_zero, List.set_cons_succ, i64_w, i32_w]
          rfl
         refine pure_ (i := 2) (N := some 18) (v := ?_) (a' := ?_) #[true, false, true, false, false, false, false, false, false, false, false, false, false, false, false, false] rfl rfl (any_of HT_.out (by kernel_rfl)) (fun _ _ _ h => h) (Or.inl ⟨by rfl, ?_⟩) ?_ ?_
         rotate_left
         ·intro w'
          go_simp
          with_reducible rfl
         rotate_left
         ·simp only [Act.put, List.setIfInBounds_toArray, List.set_cons_zero, List.set_cons_succ, i64_w, i32_w]
          rfl
         refine pure_ (i := 3) (N := some 19) (v := ?_) (a' := ?_) #[true, false, true, true, false, false, false, false, false, false, false, false, false, false, false, false] rfl rfl (any_of HT_.out (by kernel_rfl)) (fun _ _ _ h => h) (Or.inl ⟨by rfl, ?_⟩) ?_ ?_
         rotate_left
         ·intro w'
          go_simp
          with_reducible rfl
         rotate_left
         ·simp only [Act.put, List.setIfInBounds_toArray, List.set_cons_zero, List.set_cons_succ, i64_w, i32_w]
          rfl
         refine pure_ (i := 4) (N := some 20) (v := ?_) (a' := ?_) #[true, false, true, true, true, false, false, false, false, false, false, false, false, false, false, false] rfl rfl (any_of HT_.out (by kernel_rfl)) (fun _ _ _ h => h) (Or.inl ⟨by rfl, ?_⟩) ?_ ?_
         rotate_left
         ·intro w'
          go_simp
          with_reducible rfl
         rotate_left
         ·simp only [Act.put, List.setIfInBounds_toArray, List.set_cons_zero, List.set_cons_succ, i64_w, i32_w]
          rfl
         refine pure_ (i := 7) (N := some 23) (v := ?_) (a' := ?_) #[true, false, true, true, true, false, false, true, false, false, false, false, false, false, false, false] rfl rfl (any_of HT_.out (by kernel_rfl)) (fun _ _ _ h => h) (Or.inl ⟨by rfl, ?_⟩) ?_ ?_
         rotate_left
         ·intro w'
          go_simp
          with_reducible rfl
         rotate_left
         ·simp only [Act.put, List.setIfInBounds_toArray, List.set_cons_zero, List.set_cons_succ, i64_w, i32_w]
          rfl
         refine pure_ (i := 8) (N := some 24) (v := ?_) (a' := ?_) #[true, false, true, true, true, false, false, true, true, false, false, false, false, false, false, false] rfl rfl (any_of HT_.out (by kernel_rfl)) (fun _ _ _ h => h) (Or.inl ⟨by rfl, ?_⟩) ?_ ?_
         rotate_left
         ·intro w'
          go_simp
          with_reducible rfl
         rotate_left
         ·simp only [Act.put, List.setIfInBounds_toArray, List.set_cons_zero, List.set_cons_succ, i64_w, i32_w]
          rfl
         refine pure_ (i := 9) (N := some 25) (v := ?_) (a' := ?_) #[true, false, true, true, true, false, false, true, true, true, false, false, false, false, false, false] rfl rfl (any_of HT_.out (by kernel_rfl)) (fun _ _ _ h => h) (Or.inl ⟨by rfl, ?_⟩) ?_ ?_
         rotate_left
         ·intro w'
          go_simp
          with_reducible rfl
         rotate_left
         ·simp only [Act.put, List.setIfInBounds_toArray, List.set_cons_zero, List.set_cons_succ, i64_w, i32_w]
          rfl
         refine take_ (i := 5) (N := some 21) (v := ?_) (a' := ?_) #[true, false, true, true, true, true, false, true, true, true, false, false, false, false, false, false] rfl rfl (take_ofW HT_.out HW_.out (by kernel_rfl)) (fun _ _ _ h => h) (Or.inl ⟨by rfl, ?_⟩) hHeld ?_ ?_
         rotate_left
         ·rintro w' ⟨s0, s1⟩
          go_simp
          with_reducible rfl
         rotate_left
         ·simp only [Act.put, List.setIfInBounds_toArray, List.set_cons_zero, List.set_cons_succ, i64_w, i32_w]
          rfl
         refine take_ (i := 10) (N := some 26) (v := ?_) (a' := ?_) #[true, false, true, true, true, true, false, true, true, true, true, false, false, false, false, false] rfl rfl (take_ofW HT_.out HW_.out (by kernel_rfl)) (fun _ _ _ h => h) (Or.inl ⟨by rfl, ?_⟩) hHeld ?_ ?_
         rotate_left
         ·rintro w' ⟨s0, s1⟩
          go_simp
          with_reducible rfl
         rotate_left
         ·simp only [Act.put, List.setIfInBounds_toArray, List.set_cons_zero, List.set_cons_succ, i64_w, i32_w]
          rfl
         refine join_ (σ := Value × Value × Value) 4 #[true, true, true, true, true, true, true, true, true, true, true, true, false, false, false, false] (fun s_ => [(17, s_.1), (22, s_.2.1), (27, s_.2.2)]) (fun s_ w' => (w'.cell? (ad264.add (x8_1).toNat) = some (.slice A264_0 (rd_L1 l0 x8_1).length c264_0) ∧ w'.cell? (ad268.add (x8_1).toNat) = some (.int .i64 (rd l1 x8_1))) ∧ (Kd.R (Kd.int .i64) 3 w' w.heap.size (fun k_ => (w.heap.size ≤ k_) ∧ some k_ ≠ (s_.2.2 : Value).ownBlock) s_.2.1 y265) ∧ (Kd.R (Kd.int .i64) 3 w' w.heap.size (fun k_ => (w.heap.size ≤ k_) ∧ some k_ ≠ (s_.2.1 : Value).ownBlock) s_.2.2 y269) ∧ (Kd.N (Kd.slice 3 (Kd.int .i64)) 23 w' w.heap.size (fun k_ => (w.heap.size ≤ k_) ∧ some k_ ≠ (s_.2.1 : Value).ownBlock ∧ some k_ ≠ (s_.2.2 : Value).ownBlock) (.slice Ao12 x7_1.length co12) x7_1) ∧ (Below w.heap.size w w')) ?_ ?_
         rotate_left
         ·intro hCont
          refine two_ (i := 1) (j := 11) (Ni := some 17) (Nj := some 27) #[true, true, true, true, true, true, false, true, true, true, true, false, false, false, false, false] #[true, false, true, true, true, true, false, true, true, true, true, true, false, false, false, false] rfl rfl rfl rfl (two_of HT_.out (by kernel_rfl)) (by decide) (by decide) (fun K hK => ?_) (fun K hK => ?_)
          ·skip
           refine Kd.R_lit_step (Kd.int .i64) _ 3 ?hg (N := 17) ?hd (xs := ([] : List Int)) (inner := []) (ok := fun _ => True) (okp := fun _ => True) ?hr ?hp (fun _ hk => hk) trivial (Below.refl _ _) (Nat.le_refl _) (by simp) ?_;(case hd => rfl);(case hg => rfl);(case hr => first|(go_simp;done)|(go_simp;rfl));(case hp => exact (Reps.none _ _))
           intro v262 w14 ho15 hb hg_ hnew_
           clear hg_ hnew_
           (first|rw [← Ny261.out] at ho15|(simp only [Int.reduceToNat] at ho15;rw [← Ny261.out] at ho15))
           have n0_ := Aside0.mk (Kd.N_elder' (by (with_reducible repeat (first|apply Kd.N_alloc|apply Kd.N_drewN|apply Kd.N_drew));exact HO_7.out) (Kd.R_base ho15) hb)
           have n1_ := Aside0.mk (Kd.R_lower (Kd.R_newM (M := fun k_ => (w.heap.size ≤ k_)) ho15 (below_size (by repeat first|(with_reducible first|exact HB.out|apply below_alloc|apply pw_below_drewN|apply below_drew1)|exact HB.out)) (fun k_ h_ => h_)) (below_size (by repeat first|(with_reducible first|exact HB.out|apply below_alloc|apply pw_below_drewN|apply below_drew1)|exact HB.out)))
           have n2_ := Aside0.mk (below_step (by repeat first|(with_reducible first|exact HB.out|apply below_alloc|apply pw_below_drewN|apply below_drew1)|exact HB.out) hb)
           clear HO_7
           clear HB
           have HO_7 := n0_
           have HO263 := n1_
           have HB := n2_
           clear n0_ n1_ n2_
           clear hb ho15
           refine hK.out _ _ ⟨((HB.out.cell (World.block_lt_of_cell? w _ hw264_0)).trans hw264_0), ((HB.out.cell (World.block_lt_of_cell? w _ hw268_0)).trans hw268_0)⟩ (fun hHeld => ?_)
           clear hK K
           refine norm_ (a' := ?_) ?_ ?_
           rotate_left
           ·show Act.put _ (some 17) _ = _
            simp only [Act.put, List.setIfInBounds_toArray, List.set_cons_zero, List.set_cons_succ, i64_w, i32_w]
            rfl
           refine two_ (i := 6) (j := 11) (Ni := some 22) (Nj := some 27) #[true, true, true, true, true, true, true, true, true, true, true, false, false, false, false, false] #[true, true, true, true, true, true, false, true, true, true, true, true, false, false, false, false] rfl rfl rfl rfl (two_of HT_.out (by kernel_rfl)) (by decide) (by decide) (fun K hK => ?_) (fun K hK => ?_)
           ·skip
            refine Kd.R_append_rows_step (Kd.int .i64) (w0 := w) w.heap.size (by rfl) (.tmp 17) (.tmp 21) 23 3 (.int .i64 0) 8 rfl Try.underlying23 info3 rfl (by decide) (by omega) v262 y261 (rd_L1 l0 x8_1) _ _ _ (fun k_ => (w.heap.size ≤ k_)) (fun _ => False) rfl rfl ?aO ?aR (fun _ _ h => h) (fun _ h => h.elim) ?aF ?aB ?aS ?aL ?_
            (case aR => repeat (first|exact (Kd.C_below HR264_0.out HB.out)|(with_reducible refine Kd.C_alloc ?_ _)|(with_reducible refine Kd.C_drewN ?_ _)|(with_reducible refine Kd.C_drew ?_)))
            (case aB => exact (by repeat first|(with_reducible first|exact HB.out|apply below_alloc|apply pw_below_drewN|apply below_drew1)|exact HB.out))
            (case aF => exact (fun k_ hk => (Nat.le_trans (below_size (by repeat first|(with_reducible first|exact HB.out|apply below_alloc|apply pw_below_drewN|apply below_drew1)|exact HB.out)) hk)))
            (case aO => exact (by (with_reducible repeat (first|apply Kd.R_alloc|apply Kd.R_drewN|apply Kd.R_drew));exact Kd.R_mono HO263.out (fun _ hk => hk.1)))
            (case aS => exact (below_size (by repeat first|(with_reducible first|exact HB.out|apply below_alloc|apply pw_below_drewN|apply below_drew1)|exact HB.out)))
            (case aL => have := LMc8.out;omega)
            intro v266 w16 ho hb hg hat
            rw [← Ny265.out] at ho
            have n0_ := Aside0.mk (Kd.N_afterv (ok := (fun k_ => (w.heap.size ≤ k_))) (by (with_reducible repeat (first|apply Kd.N_alloc|apply Kd.N_drewN|apply Kd.N_drew));exact HO_7.out) hg hat)
            have n1_ := Aside0.mk (hb)
            have n2_ := Aside0.mk (ho)
            clear HO_7
            clear HB
            clear HO263
            have HO_7 := n0_
            have HB := n1_
            have HO267 := n2_
            clear n0_ n1_ n2_
            clear ho hb hg hat
            refine hK.out _ _ ⟨((HB.out.cell (World.block_lt_of_cell? w _ hw264_0)).trans hw264_0), ((HB.out.cell (World.block_lt_of_cell? w _ hw268_0)).trans hw268_0)⟩ (fun hHeld => ?_)
            clear hK K
            refine norm_ (a' := ?_) ?_ ?_
            rotate_left
            ·show Act.put _ (some 22) _ = _
             simp only [Act.put, List.setIfInBounds_toArray, List.set_cons_zero, List.set_cons_succ, i64_w, i32_w]
             rfl
            refine one_ (i := 11) (N := some 27) #[true, true, true, true, true, true, true, true, true, true, true, true, false, false, false, false] rfl rfl (one_of HT_.out (by kernel_rfl)) (by decide) (fun K hK => ?_)
            refine Kd.R_lit_step (Kd.int .i64) _ 3 ?hg (N := 27) ?hd (xs := ([rd l1 x8_1] : List Int)) (inner := [.int .i64 (rd l1 x8_1)]) (ok := fun _ => True) (okp := fun _ => True) ?hr ?hp (fun _ hk => hk) trivial (Below.refl _ _) (Nat.le_refl _) (by simp) ?_;(case hd => rfl);(case hg => rfl);(case hr => first|(go_simp;done)|(go_simp;rfl));(case hp => exact (Reps.one (show Kd.M (Kd.int .i64) _ _ _ (rd l1 x8_1) [.int .i64 (rd l1 x8_1)] from rfl) (Reps.none _ _)))
            intro v270 w17 ho18 hb hg_ hnew_
            clear hg_ hnew_
            (first|rw [← Ny269.out] at ho18|(simp only [Int.reduceToNat] at ho18;rw [← Ny269.out] at ho18))
            have n0_ := Aside0.mk (Kd.N_elder' (by (with_reducible repeat (first|apply Kd.N_alloc|apply Kd.N_drewN|apply Kd.N_drew));exact HO_7.out) (Kd.R_base ho18) hb)
            have n1_ := Aside0.mk (Kd.R_elder' (by (with_reducible repeat (first|apply Kd.R_alloc|apply Kd.R_drewN|apply Kd.R_drew));exact HO267.out) (Kd.R_base ho18) hb)
            have n2_ := Aside0.mk (Kd.R_lower (Kd.R_new' (Kd.R_newM (M := fun k_ => (w.heap.size ≤ k_)) ho18 (below_size (by repeat first|(with_reducible first|exact HB.out|apply below_alloc|apply pw_below_drewN|apply below_drew1)|exact HB.out)) (fun k_ h_ => h_)) (Kd.R_lt (by (with_reducible repeat (first|apply Kd.R_alloc|apply Kd.R_drewN|apply Kd.R_drew));exact HO267.out))) (below_size (by repeat first|(with_reducible first|exact HB.out|apply below_alloc|apply pw_below_drewN|apply below_drew1)|exact HB.out)))
            have n3_ := Aside0.mk (below_step (by repeat first|(with_reducible first|exact HB.out|apply below_alloc|apply pw_below_drewN|apply below_drew1)|exact HB.out) hb)
            clear HO_7
            clear HO267
            clear HB
            have HO_7 := n0_
            have HO267 := n1_
            have HO271 := n2_
            have HB := n3_
            clear n0_ n1_ n2_ n3_
            clear hb ho18
            refine hK.out _ _ ⟨((HB.out.cell (World.block_lt_of_cell? w _ hw264_0)).trans hw264_0), ((HB.out.cell (World.block_lt_of_cell? w _ hw268_0)).trans hw268_0)⟩ (fun hHeld => ?_)
            clear hK K
            refine norm_ (a' := ?_) ?_ ?_
            rotate_left
            ·show Act.put _ (some 27) _ = _
             simp only [Act.put, List.setIfInBounds_toArray, List.set_cons_zero, List.set_cons_succ, i64_w, i32_w]
             rfl
            exact norm_ (by simp only [putAll, Act.put, List.setIfInBounds_toArray, List.set_cons_zero, List.set_cons_succ]) (hCont (v262, v266, v270) _ ⟨hHeld, (by (with_reducible repeat (first|apply Kd.R_alloc|apply Kd.R_drewN|apply Kd.R_drew));exact HO267.out), (by (with_reducible repeat (first|apply Kd.R_alloc|apply Kd.R_drewN|apply Kd.R_drew));exact Kd.R_mono HO271.out (fun _ hk => ⟨hk.1.1, hk.2⟩)), (by (with_reducible repeat (first|apply Kd.N_alloc|apply Kd.N_drewN|apply Kd.N_drew));exact Kd.N_mono HO_7.out (fun _ hk => ⟨hk.1.1, ⟨hk.1.2, hk.2⟩⟩)), (by repeat first|(with_reducible first|exact HB.out|apply below_alloc|apply pw_below_drewN|apply below_drew1)|exact HB.out)⟩)
           ·skip
            refine Kd.R_lit_step (Kd.int .i64) _ 3 ?hg (N := 27) ?hd (xs := ([rd l1 x8_1] : List Int)) (inner := [.int .i64 (rd l1 x8_1)]) (ok := fun _ => True) (okp := fun _ => True) ?hr ?hp (fun _ hk => hk) trivial (Below.refl _ _) (Nat.le_refl _) (by simp) ?_;(case hd => rfl);(case hg => rfl);(case hr => first|(go_simp;done)|(go_simp;rfl));(case hp => exact (Reps.one (show Kd.M (Kd.int .i64) _ _ _ (rd l1 x8_1) [.int .i64 (rd l1 x8_1)] from rfl) (Reps.none _ _)))
            intro v270 w16 ho17 hb hg_ hnew_
            clear hg_ hnew_
            (first|rw [← Ny269.out] at ho17|(simp only [Int.reduceToNat] at ho17;rw [← Ny269.out] at ho17))
            have n0_ := Aside0.mk (Kd.N_elder' (by (with_reducible repeat (first|apply Kd.N_alloc|apply Kd.N_drewN|apply Kd.N_drew));exact HO_7.out) (Kd.R_base ho17) hb)
            have n1_ := Aside0.mk (Kd.R_elder' (by (with_reducible repeat (first|apply Kd.R_alloc|apply Kd.R_drewN|apply Kd.R_drew));exact HO263.out) (Kd.R_base ho17) hb)
            have n2_ := Aside0.mk (Kd.R_lower (Kd.R_new' (Kd.R_newM (M := fun k_ => (w.heap.size ≤ k_)) ho17 (below_size (by repeat first|(with_reducible first|exact HB.out|apply below_alloc|apply pw_below_drewN|apply below_drew1)|exact HB.out)) (fun k_ h_ => h_)) (Kd.R_lt (by (with_reducible repeat (first|apply Kd.R_alloc|apply Kd.R_drewN|apply Kd.R_drew));exact HO263.out))) (below_size (by repeat first|(with_reducible first|exact HB.out|apply below_alloc|apply pw_below_drewN|apply below_drew1)|exact HB.out)))
            have n3_ := Aside0.mk (below_step (by repeat first|(with_reducible first|exact HB.out|apply below_alloc|apply pw_below_drewN|apply below_drew1)|exact HB.out) hb)
            clear HO_7
            clear HO263
            clear HB
            have HO_7 := n0_
            have HO263 := n1_
            have HO271 := n2_
            have HB := n3_
            clear n0_ n1_ n2_ n3_
            clear hb ho17
            refine hK.out _ _ ⟨((HB.out.cell (World.block_lt_of_cell? w _ hw264_0)).trans hw264_0), ((HB.out.cell (World.block_lt_of_cell? w _ hw268_0)).trans hw268_0)⟩ (fun hHeld => ?_)
            clear hK K
            refine norm_ (a' := ?_) ?_ ?_
            rotate_left
            ·show Act.put _ (some 27) _ = _
             simp only [Act.put, List.setIfInBounds_toArray, List.set_cons_zero, List.set_cons_succ, i64_w, i32_w]
             rfl
            refine one_ (i := 6) (N := some 22) #[true, true, true, true, true, true, true, true, true, true, true, true, false, false, false, false] rfl rfl (one_of HT_.out (by kernel_rfl)) (by decide) (fun K hK => ?_)
            refine Kd.R_append_rows_step (Kd.int .i64) (w0 := w) w.heap.size (by rfl) (.tmp 17) (.tmp 21) 23 3 (.int .i64 0) 8 rfl Try.underlying23 info3 rfl (by decide) (by omega) v262 y261 (rd_L1 l0 x8_1) _ _ _ (fun k_ => (w.heap.size ≤ k_) ∧ some k_ ≠ (v270 : Value).ownBlock) (fun _ => False) rfl rfl ?aO ?aR (fun _ _ h => h) (fun _ h => h.elim) ?aF ?aB ?aS ?aL ?_
            (case aR => repeat (first|exact (Kd.C_below HR264_0.out HB.out)|(with_reducible refine Kd.C_alloc ?_ _)|(with_reducible refine Kd.C_drewN ?_ _)|(with_reducible refine Kd.C_drew ?_)))
            (case aB => exact (by repeat first|(with_reducible first|exact HB.out|apply below_alloc|apply pw_below_drewN|apply below_drew1)|exact HB.out))
            (case aF => exact (fun k_ hk => ⟨(Nat.le_trans (below_size (by repeat first|(with_reducible first|exact HB.out|apply below_alloc|apply pw_below_drewN|apply below_drew1)|exact HB.out)) hk), Kd.fresh' (Kd.R_lt (by (with_reducible repeat (first|apply Kd.R_alloc|apply Kd.R_drewN|apply Kd.R_drew));exact HO271.out)) k_ hk⟩))
            (case aO => exact (by (with_reducible repeat (first|apply Kd.R_alloc|apply Kd.R_drewN|apply Kd.R_drew));exact Kd.R_mono HO263.out (fun _ hk => ⟨hk.1.1, hk.2⟩)))
            (case aS => exact (below_size (by repeat first|(with_reducible first|exact HB.out|apply below_alloc|apply pw_below_drewN|apply below_drew1)|exact HB.out)))
            (case aL => have := LMc8.out;omega)
            intro v266 w18 ho hb hg hat
            rw [← Ny265.out] at ho
            have n0_ := Aside0.mk (Kd.N_afterv (ok := (fun k_ => (w.heap.size ≤ k_) ∧ some k_ ≠ (v270 : Value).ownBlock)) (by (with_reducible repeat (first|apply Kd.N_alloc|apply Kd.N_drewN|apply Kd.N_drew));exact Kd.N_mono HO_7.out (fun _ hk => ⟨⟨hk.1.1, hk.2⟩, hk.1.2⟩)) hg hat)
            have n1_ := Aside0.mk (Kd.R_after (ok := (fun k_ => (w.heap.size ≤ k_))) (by (with_reducible repeat (first|apply Kd.R_alloc|apply Kd.R_drewN|apply Kd.R_drew));exact Kd.R_mono HO271.out (fun _ hk => ⟨hk.1.1, hk.2⟩)) hg hat)
            have n2_ := Aside0.mk (hb)
            have n3_ := Aside0.mk (ho)
            clear HO_7
            clear HO271
            clear HB
            clear HO263
            have HO_7 := n0_
            have HO271 := n1_
            have HB := n2_
            have HO267 := n3_
            clear n0_ n1_ n2_ n3_
            clear ho hb hg hat
            refine hK.out _ _ ⟨((HB.out.cell (World.block_lt_of_cell? w _ hw264_0)).trans hw264_0), ((HB.out.cell (World.block_lt_of_cell? w _ hw268_0)).trans hw268_0)⟩ (fun hHeld => ?_)
            clear hK K
            refine norm_ (a' := ?_) ?_ ?_
            rotate_left
            ·show Act.put _ (some 22) _ = _
             simp only [Act.put, List.setIfInBounds_toArray, List.set_cons_zero, List.set_cons_succ, i64_w, i32_w]
             rfl
            exact norm_ (by simp only [putAll, Act.put, List.setIfInBounds_toArray, List.set_cons_zero, List.set_cons_succ]) (hCont (v262, v266, v270) _ ⟨hHeld, (by (with_reducible repeat (first|apply Kd.R_alloc|apply Kd.R_drewN|apply Kd.R_drew));exact HO267.out), (by (with_reducible repeat (first|apply Kd.R_alloc|apply Kd.R_drewN|apply Kd.R_drew));exact HO271.out), (by (with_reducible repeat (first|apply Kd.N_alloc|apply Kd.N_drewN|apply Kd.N_drew));exact Kd.N_mono HO_7.out (fun _ hk => ⟨hk.1.1, ⟨hk.2, hk.1.2⟩⟩)), (by repeat first|(with_reducible first|exact HB.out|apply below_alloc|apply pw_below_drewN|apply below_drew1)|exact HB.out)⟩)
          ·skip
           refine Kd.R_lit_step (Kd.int .i64) _ 3 ?hg (N := 27) ?hd (xs := ([rd l1 x8_1] : List Int)) (inner := [.int .i64 (rd l1 x8_1)]) (ok := fun _ => True) (okp := fun _ => True) ?hr ?hp (fun _ hk => hk) trivial (Below.refl _ _) (Nat.le_refl _) (by simp) ?_;(case hd => rfl);(case hg => rfl);(case hr => first|(go_simp;done)|(go_simp;rfl));(case hp => exact (Reps.one (show Kd.M (Kd.int .i64) _ _ _ (rd l1 x8_1) [.int .i64 (rd l1 x8_1)] from rfl) (Reps.none _ _)))
           intro v270 w14 ho15 hb hg_ hnew_
           clear hg_ hnew_
           (first|rw [← Ny269.out] at ho15|(simp only [Int.reduceToNat] at ho15;rw [← Ny269.out] at ho15))
           have n0_ := Aside0.mk (Kd.N_elder' (by (with_reducible repeat (first|apply Kd.N_alloc|apply Kd.N_drewN|apply Kd.N_drew));exact HO_7.out) (Kd.R_base ho15) hb)
           have n1_ := Aside0.mk (Kd.R_lower (Kd.R_newM (M := fun k_ => (w.heap.size ≤ k_)) ho15 (below_size (by repeat first|(with_reducible first|exact HB.out|apply below_alloc|apply pw_below_drewN|apply below_drew1)|exact HB.out)) (fun k_ h_ => h_)) (below_size (by repeat first|(with_reducible first|exact HB.out|apply below_alloc|apply pw_below_drewN|apply below_drew1)|exact HB.out)))
           have n2_ := Aside0.mk (below_step (by repeat first|(with_reducible first|exact HB.out|apply below_alloc|apply pw_below_drewN|apply below_drew1)|exact HB.out) hb)
           clear HO_7
           clear HB
           have HO_7 := n0_
           have HO271 := n1_
           have HB := n2_
           clear n0_ n1_ n2_
           clear hb ho15
           refine hK.out _ _ ⟨((HB.out.cell (World.block_lt_of_cell? w _ hw264_0)).trans hw264_0), ((HB.out.cell (World.block_lt_of_cell? w _ hw268_0)).trans hw268_0)⟩ (fun hHeld => ?_)
           clear hK K
           refine norm_ (a' := ?_) ?_ ?_
           rotate_left
           ·show Act.put _ (some 27) _ = _
            simp only [Act.put, List.setIfInBounds_toArray, List.set_cons_zero, List.set_cons_succ, i64_w, i32_w]
            rfl
           refine one_ (i := 1) (N := some 17) #[true, true, true, true, true, true, false, true, true, true, true, true, false, false, false, false] rfl rfl (one_of HT_.out (by kernel_rfl)) (by decide) (fun K hK => ?_)
           refine Kd.R_lit_step (Kd.int .i64) _ 3 ?hg (N := 17) ?hd (xs := ([] : List Int)) (inner := []) (ok := fun _ => True) (okp := fun _ => True) ?hr ?hp (fun _ hk => hk) trivial (Below.refl _ _) (Nat.le_refl _) (by simp) ?_;(case hd => rfl);(case hg => rfl);(case hr => first|(go_simp;done)|(go_simp;rfl));(case hp => exact (Reps.none _ _))
           intro v262 w16 ho17 hb hg_ hnew_
           clear hg_ hnew_
           (first|rw [← Ny261.out] at ho17|(simp only [Int.reduceToNat] at ho17;rw [← Ny261.out] at ho17))
           have n0_ := Aside0.mk (Kd.N_elder' (by (with_reducible repeat (first|apply Kd.N_alloc|apply Kd.N_drewN|apply Kd.N_drew));exact HO_7.out) (Kd.R_base ho17) hb)
           have n1_ := Aside0.mk (Kd.R_elder' (by (with_reducible repeat (first|apply Kd.R_alloc|apply Kd.R_drewN|apply Kd.R_drew));exact HO271.out) (Kd.R_base ho17) hb)
           have n2_ := Aside0.mk (Kd.R_lower (Kd.R_new' (Kd.R_newM (M := fun k_ => (w.heap.size ≤ k_)) ho17 (below_size (by repeat first|(with_reducible first|exact HB.out|apply below_alloc|apply pw_below_drewN|apply below_drew1)|exact HB.out)) (fun k_ h_ => h_)) (Kd.R_lt (by (with_reducible repeat (first|apply Kd.R_alloc|apply Kd.R_drewN|apply Kd.R_drew));exact HO271.out))) (below_size (by repeat first|(with_reducible first|exact HB.out|apply below_alloc|apply pw_below_drewN|apply below_drew1)|exact HB.out)))
           have n3_ := Aside0.mk (below_step (by repeat first|(with_reducible first|exact HB.out|apply below_alloc|apply pw_below_drewN|apply below_drew1)|exact HB.out) hb)
           clear HO_7
           clear HO271
           clear HB
           have HO_7 := n0_
           have HO271 := n1_
           have HO263 := n2_
           have HB := n3_
           clear n0_ n1_ n2_ n3_
           clear hb ho17
           refine hK.out _ _ ⟨((HB.out.cell (World.block_lt_of_cell? w _ hw264_0)).trans hw264_0), ((HB.out.cell (World.block_lt_of_cell? w _ hw268_0)).trans hw268_0)⟩ (fun hHeld => ?_)
           clear hK K
           refine norm_ (a' := ?_) ?_ ?_
           rotate_left
           ·show Act.put _ (some 17) _ = _
            simp only [Act.put, List.setIfInBounds_toArray, List.set_cons_zero, List.set_cons_succ, i64_w, i32_w]
            rfl
           refine one_ (i := 6) (N := some 22) #[true, true, true, true, true, true, true, true, true, true, true, true, false, false, false, false] rfl rfl (one_of HT_.out (by kernel_rfl)) (by decide) (fun K hK => ?_)
           refine Kd.R_append_rows_step (Kd.int .i64) (w0 := w) w.heap.size (by rfl) (.tmp 17) (.tmp 21) 23 3 (.int .i64 0) 8 rfl Try.underlying23 info3 rfl (by decide) (by omega) v262 y261 (rd_L1 l0 x8_1) _ _ _ (fun k_ => (w.heap.size ≤ k_) ∧ some k_ ≠ (v270 : Value).ownBlock) (fun _ => False) rfl rfl ?aO ?aR (fun _ _ h => h) (fun _ h => h.elim) ?aF ?aB ?aS ?aL ?_
           (case aR => repeat (first|exact (Kd.C_below HR264_0.out HB.out)|(with_reducible refine Kd.C_alloc ?_ _)|(with_reducible refine Kd.C_drewN ?_ _)|(with_reducible refine Kd.C_drew ?_)))
           (case aB => exact (by repeat first|(with_reducible first|exact HB.out|apply below_alloc|apply pw_below_drewN|apply below_drew1)|exact HB.out))
           (case aF => exact (fun k_ hk => ⟨(Nat.le_trans (below_size (by repeat first|(with_reducible first|exact HB.out|apply below_alloc|apply pw_below_drewN|apply below_drew1)|exact HB.out)) hk), Kd.fresh' (Kd.R_lt (by (with_reducible repeat (first|apply Kd.R_alloc|apply Kd.R_drewN|apply Kd.R_drew));exact HO271.out)) k_ hk⟩))
           (case aO => exact (by (with_reducible repeat (first|apply Kd.R_alloc|apply Kd.R_drewN|apply Kd.R_drew));exact Kd.R_mono HO263.out (fun _ hk => ⟨hk.1.1, hk.2⟩)))
           (case aS => exact (below_size (by repeat first|(with_reducible first|exact HB.out|apply below_alloc|apply pw_below_drewN|apply below_drew1)|exact HB.out)))
           (case aL => have := LMc8.out;omega)
           intro v266 w18 ho hb hg hat
           rw [← Ny265.out] at ho
           have n0_ := Aside0.mk (Kd.N_afterv (ok := (fun k_ => (w.heap.size ≤ k_) ∧ some k_ ≠ (v270 : Value).ownBlock)) (by (with_reducible repeat (first|apply Kd.N_alloc|apply Kd.N_drewN|apply Kd.N_drew));exact HO_7.out) hg hat)
           have n1_ := Aside0.mk (Kd.R_after (ok := (fun k_ => (w.heap.size ≤ k_))) (by (with_reducible repeat (first|apply Kd.R_alloc|apply Kd.R_drewN|apply Kd.R_drew));exact Kd.R_mono HO271.out (fun _ hk => ⟨hk.1.1, hk.2⟩)) hg hat)
           have n2_ := Aside0.mk (hb)
           have n3_ := Aside0.mk (ho)
           clear HO_7
           clear HO271
           clear HB
           clear HO263
           have HO_7 := n0_
           have HO271 := n1_
           have HB := n2_
           have HO267 := n3_
           clear n0_ n1_ n2_ n3_
           clear ho hb hg hat
           refine hK.out _ _ ⟨((HB.out.cell (World.block_lt_of_cell? w _ hw264_0)).trans hw264_0), ((HB.out.cell (World.block_lt_of_cell? w _ hw268_0)).trans hw268_0)⟩ (fun hHeld => ?_)
           clear hK K
           refine norm_ (a' := ?_) ?_ ?_
           rotate_left
           ·show Act.put _ (some 22) _ = _
            simp only [Act.put, List.setIfInBounds_toArray, List.set_cons_zero, List.set_cons_succ, i64_w, i32_w]
            rfl
           exact norm_ (by simp only [putAll, Act.put, List.setIfInBounds_toArray, List.set_cons_zero, List.set_cons_succ]) (hCont (v262, v266, v270) _ ⟨hHeld, (by (with_reducible repeat (first|apply Kd.R_alloc|apply Kd.R_drewN|apply Kd.R_drew));exact HO267.out), (by (with_reducible repeat (first|apply Kd.R_alloc|apply Kd.R_drewN|apply Kd.R_drew));exact HO271.out), (by (with_reducible repeat (first|apply Kd.N_alloc|apply Kd.N_drewN|apply Kd.N_drew));exact Kd.N_mono HO_7.out (fun _ hk => ⟨hk.1.1, ⟨hk.2, hk.1.2⟩⟩)), (by repeat first|(with_reducible first|exact HB.out|apply below_alloc|apply pw_below_drewN|apply below_drew1)|exact HB.out)⟩)
         rintro ⟨v262, v266, v270⟩ w19 ⟨hS_, h0_, h1_, h2_, h3_⟩
         have n0_ : Aside0 (Kd.R (Kd.int .i64) 3 w19 w.heap.size (fun k_ => (w.heap.size ≤ k_) ∧ some k_ ≠ (v270 : Value).ownBlock) v266 y265) := ⟨h0_⟩
         have n1_ : Aside0 (Kd.R (Kd.int .i64) 3 w19 w.heap.size (fun k_ => (w.heap.size ≤ k_) ∧ some k_ ≠ (v266 : Value).ownBlock) v270 y269) := ⟨h1_⟩
         have n2_ : Aside0 (Kd.N (Kd.slice 3 (Kd.int .i64)) 23 w19 w.heap.size (fun k_ => (w.heap.size ≤ k_) ∧ some k_ ≠ (v266 : Value).ownBlock ∧ some k_ ≠ (v270 : Value).ownBlock) (.slice Ao12 x7_1.length co12) x7_1) := ⟨h2_⟩
         have n3_ : Aside0 (Below w.heap.size w w19) := ⟨h3_⟩
         clear HO_7
         clear HB
         clear h0_ h1_ h2_ h3_
         have HO267 := n0_
         have HO271 := n1_
         have HO_7 := n2_
         have HB := n3_
         clear n0_ n1_ n2_ n3_
         have hHeld : w19.cell? (ad264.add (x8_1).toNat) = some (.slice A264_0 (rd_L1 l0 x8_1).length c264_0) ∧ w19.cell? (ad268.add (x8_1).toNat) = some (.int .i64 (rd l1 x8_1)) := hS_
         obtain ⟨Ao21, co21, eo21⟩ := Kd.R_slice HO271.out
         (first|subst eo21|(injection eo21 with f1_ f2_ f3_;have f4_ := f1_.symm;have f5_ := f3_.symm;clear f1_ f2_ f3_;subst f4_;subst f5_))
         refine norm_ (a' := ?_) ?_ ?_
         rotate_left
         ·simp only [putAll, Act.put, List.setIfInBounds_toArray, List.set_cons_zero, List.set_cons_succ]
          rfl
         refine one_ (i := 12) (N := some 28) #[true, true, true, true, true, true, true, true, true, true, true, true, true, false, false, false] rfl rfl (one_of HT_.out (by kernel_rfl)) (by decide) (fun K hK => ?_)
         refine Kd.R_append_rows_step (Kd.int .i64) (w0 := w) w.heap.size (by rfl) (.tmp 22) (.tmp 27) 23 3 (.int .i64 0) 8 rfl Try.underlying23 info3 rfl (by decide) (by omega) v266 y265 y269 _ _ _ (fun k_ => (w.heap.size ≤ k_) ∧ some k_ ≠ (.slice Ao21 y269.length co21 : Value).ownBlock) (fun _ => False) rfl rfl ?aO ?aR (fun _ _ h => h) (fun _ h => h.elim) ?aF ?aB ?aS ?aL ?_
         (case aR => repeat (first|exact (Kd.R_reads' HO271.out).2.2|(with_reducible refine Kd.C_alloc ?_ _)|(with_reducible refine Kd.C_drewN ?_ _)|(with_reducible refine Kd.C_drew ?_)))
         (case aB => exact (by repeat first|(with_reducible first|exact HB.out|apply below_alloc|apply pw_below_drewN|apply below_drew1)|exact HB.out))
         (case aF => exact (fun k_ hk => ⟨(Nat.le_trans (below_size (by repeat first|(with_reducible first|exact HB.out|apply below_alloc|apply pw_below_drewN|apply below_drew1)|exact HB.out)) hk), Kd.fresh' (Kd.R_lt (by (with_reducible repeat (first|apply Kd.R_alloc|apply Kd.R_drewN|apply Kd.R_drew));exact HO271.out)) k_ hk⟩))
         (case aO => exact (by (with_reducible repeat (first|apply Kd.R_alloc|apply Kd.R_drewN|apply Kd.R_drew));exact HO267.out))
         (case aS => exact (below_size (by repeat first|(with_reducible first|exact HB.out|apply below_alloc|apply pw_below_drewN|apply below_drew1)|exact HB.out)))
         (case aL => have := LMc10.out;omega)
         intro v273 w20 ho hb hg hat
         rw [← Ny272.out] at ho
         have n0_ := Aside0.mk (Kd.N_afterv (ok := (fun k_ => (w.heap.size ≤ k_) ∧ some k_ ≠ (.slice Ao21 y269.length co21 : Value).ownBlock)) (by (with_reducible repeat (first|apply Kd.N_alloc|apply Kd.N_drewN|apply Kd.N_drew));exact Kd.N_mono HO_7.out (fun _ hk => ⟨⟨hk.1, hk.2.2⟩, hk.2.1⟩)) hg hat)
         have n1_ := Aside0.mk (Kd.R_after (ok := (fun k_ => (w.heap.size ≤ k_))) (by (with_reducible repeat (first|apply Kd.R_alloc|apply Kd.R_drewN|apply Kd.R_drew));exact HO271.out) hg hat)
         have n2_ := Aside0.mk (hb)
         have n3_ := Aside0.mk (ho)
         clear HO_7
         clear HO271
         clear HB
         clear HO267
         have HO_7 := n0_
         have HO271 := n1_
         have HB := n2_
         have HO274 := n3_
         clear n0_ n1_ n2_ n3_
         clear ho hb hg hat
         obtain ⟨Ao22, co22, eo22⟩ := Kd.R_slice HO274.out
         (first|subst eo22|(injection eo22 with f1_ f2_ f3_;have f4_ := f1_.symm;have f5_ := f3_.symm;clear f1_ f2_ f3_;subst f4_;subst f5_))
         refine hK.out _ _ ⟨((HB.out.cell (World.block_lt_of_cell? w _ hw264_0)).trans hw264_0), ((HB.out.cell (World.block_lt_of_cell? w _ hw268_0)).trans hw268_0)⟩ (fun hHeld => ?_)
         clear hK K
         refine norm_ (a' := ?_) ?_ ?_
         rotate_left
         ·show Act.put _ (some 28) _ = _
          simp only [Act.put, List.setIfInBounds_toArray, List.set_cons_zero, List.set_cons_succ, i64_w, i32_w]
          rfl
         refine one_ (i := 13) (N := some 29) #[true, true, true, true, true, true, true, true, true, true, true, true, true, true, false, false] rfl rfl (one_of HT_.out (by kernel_rfl)) (by decide) (fun K hK => ?_)
         refine Kd.N_lit_step (Kd.slice 3 (Kd.int .i64)) _ 23 ?hg (N' := 29) ?hd (xs := ([y272] : List (List Int))) (inner := [.slice Ao22 y272.length co22]) (ok := (fun k_ => (w.heap.size ≤ k_) ∧ some k_ ≠ (.slice Ao12 x7_1.length co12 : Value).ownBlock ∧ some k_ ≠ (.slice Ao21 y269.length co21 : Value).ownBlock)) (okp := (fun k_ => (w.heap.size ≤ k_) ∧ some k_ ≠ (.slice Ao12 x7_1.length co12 : Value).ownBlock ∧ some k_ ≠ (.slice Ao21 y269.length co21 : Value).ownBlock)) ?hr ?hp (fun _ hk => hk) ((show ∀ k_, w20.heap.size ≤ k_ → (fun k_ => (w.heap.size ≤ k_) ∧ some k_ ≠ (.slice Ao12 x7_1.length co12 : Value).ownBlock ∧ some k_ ≠ (.slice Ao21 y269.length co21 : Value).ownBlock) k_ from fun k_ hk => ⟨(Nat.le_trans (below_size (by repeat first|(with_reducible first|exact HB.out|apply below_alloc|apply pw_below_drewN|apply below_drew1)|exact HB.out)) hk), Kd.fresh' (Kd.N_lt (by (with_reducible repeat (first|apply Kd.N_alloc|apply Kd.N_drewN|apply Kd.N_drew));exact HO_7.out)) k_ hk, Kd.fresh' (Kd.R_lt (by (with_reducible repeat (first|apply Kd.R_alloc|apply Kd.R_drewN|apply Kd.R_drew));exact HO271.out)) k_ hk⟩) _ (Nat.le_refl _)) (Below.refl _ _) (Nat.le_refl _) (by simp) ?_;(case hd => rfl);(case hg => rfl);(case hr => first|(go_simp;done)|(go_simp;rfl));(case hp => exact (Reps.one (show Kd.FK (Kd.slice 3 (Kd.int .i64)) _ _ y272 [.slice Ao22 y272.length co22] from (Kd.FK_slice_mk (Kd.R_reads' (Kd.R_mono (ok' := (fun k_ => (w.heap.size ≤ k_) ∧ some k_ ≠ (.slice Ao12 x7_1.length co12 : Value).ownBlock ∧ some k_ ≠ (.slice Ao21 y269.length co21 : Value).ownBlock)) (Kd.R_apart' (HO274.out) (Kd.N_typed HO_7.out) (by decide)) (fun k_ hk => ⟨hk.1.1, ⟨hk.2, hk.1.2⟩⟩))).2.1 (Kd.R_F (Kd.R_mono (ok' := (fun k_ => (w.heap.size ≤ k_) ∧ some k_ ≠ (.slice Ao12 x7_1.length co12 : Value).ownBlock ∧ some k_ ≠ (.slice Ao21 y269.length co21 : Value).ownBlock)) (Kd.R_apart' (HO274.out) (Kd.N_typed HO_7.out) (by decide)) (fun k_ hk => ⟨hk.1.1, ⟨hk.2, hk.1.2⟩⟩))))) (Reps.none _ _)))
         intro v276 w23 ho24 hb hg_ hnew_
         clear hg_ hnew_
         (first|rw [← Ny275.out] at ho24|(simp only [Int.reduceToNat] at ho24;rw [← Ny275.out] at ho24))
         have n0_ := Aside0.mk (Kd.N_elder' (by (with_reducible repeat (first|apply Kd.N_alloc|apply Kd.N_drewN|apply Kd.N_drew));exact HO_7.out) (Kd.N_base ho24) hb)
         have n1_ := Aside0.mk (Kd.R_below (by (with_reducible repeat (first|apply Kd.R_alloc|apply Kd.R_drewN|apply Kd.R_drew));exact HO271.out) hb)
         have n2_ := Aside0.mk (Kd.N_lower ho24 (below_size (by repeat first|(with_reducible first|exact HB.out|apply below_alloc|apply pw_below_drewN|apply below_drew1)|exact HB.out)))
         have n3_ := Aside0.mk (below_step (by repeat first|(with_reducible first|exact HB.out|apply below_alloc|apply pw_below_drewN|apply below_drew1)|exact HB.out) hb)
         clear HO_7
         clear HO271
         clear HB
         clear HO274
         have HO_7 := n0_
         have HO271 := n1_
         have HO277 := n2_
         have HB := n3_
         clear n0_ n1_ n2_ n3_
         clear hb ho24
         obtain ⟨Ao26, co26, eo26⟩ := Kd.N_slice HO277.out
         (first|subst eo26|(injection eo26 with f1_ f2_ f3_;have f4_ := f1_.symm;have f5_ := f3_.symm;clear f1_ f2_ f3_;subst f4_;subst f5_))
         refine hK.out _ _ ⟨((HB.out.cell (World.block_lt_of_cell? w _ hw264_0)).trans hw264_0), ((HB.out.cell (World.block_lt_of_cell? w _ hw268_0)).trans hw268_0)⟩ (fun hHeld => ?_)
         clear hK K
         refine norm_ (a' := ?_) ?_ ?_
         rotate_left
         ·show Act.put _ (some 29) _ = _
          simp only [Act.put, List.setIfInBounds_toArray, List.set_cons_zero, List.set_cons_succ, i64_w, i32_w]
          rfl
         refine one_ (i := 14) (N := some 30) #[true, true, true, true, true, true, true, true, true, true, true, true, true, true, true, false] rfl rfl (one_of HT_.out (by kernel_rfl)) (by decide) (fun K hK => ?_)
         refine Kd.N_append_rows_step (Kd.slice 3 (Kd.int .i64)) (w0 := w) w.heap.size (by rfl) (.tmp 16) (.tmp 29) 22 23 (.slice none 0 0) 24 rfl Try.underlying22 info23 rfl (by decide) (by omega) (.slice Ao12 x7_1.length co12) x7_1 y275 _ _ _ (fun k_ => (w.heap.size ≤ k_) ∧ some k_ ≠ (.slice Ao21 y269.length co21 : Value).ownBlock) (fun k_ => ((fun k_ => (w.heap.size ≤ k_) ∧ some k_ ≠ (.slice Ao21 y269.length co21 : Value).ownBlock)) k_ ∧ some k_ ≠ (.slice Ao12 x7_1.length co12 : Value).ownBlock) rfl rfl ?aO ?aR (fun _ hk => hk) ?aF ?aB ?aS ?aL ?_
         (case aR => exact (by skip;exact Kd.N_F (Kd.N_mono (ok' := (fun k_ => ((fun k_ => (w.heap.size ≤ k_) ∧ some k_ ≠ (.slice Ao21 y269.length co21 : Value).ownBlock)) k_ ∧ some k_ ≠ (.slice Ao12 x7_1.length co12 : Value).ownBlock)) (HO277.out) (fun k_ hk => ⟨⟨hk.1, hk.2.2⟩, hk.2.1⟩))))
         (case aB => exact (by repeat first|(with_reducible first|exact HB.out|apply below_alloc|apply pw_below_drewN|apply below_drew1)|exact HB.out))
         (case aF => exact (fun k_ hk => ⟨(Nat.le_trans (below_size (by repeat first|(with_reducible first|exact HB.out|apply below_alloc|apply pw_below_drewN|apply below_drew1)|exact HB.out)) hk), Kd.fresh' (Kd.R_lt (by (with_reducible repeat (first|apply Kd.R_alloc|apply Kd.R_drewN|apply Kd.R_drew));exact HO271.out)) k_ hk⟩))
         (case aO => exact (by (with_reducible repeat (first|apply Kd.N_alloc|apply Kd.N_drewN|apply Kd.N_drew));exact Kd.N_mono HO_7.out (fun _ hk => ⟨hk.1.1.1, hk.1.1.2⟩)))
         (case aS => exact (below_size (by repeat first|(with_reducible first|exact HB.out|apply below_alloc|apply pw_below_drewN|apply below_drew1)|exact HB.out)))
         (case aL => have := LMc11.out;omega)
         intro v279 w25 ho hb hg hat
         rw [← Ny278.out] at ho
         have n0_ := Aside0.mk (Kd.R_over' (by (with_reducible repeat (first|apply Kd.R_alloc|apply Kd.R_drewN|apply Kd.R_drew));exact HO271.out) (Kd.N_typed (by (with_reducible repeat (first|apply Kd.N_alloc|apply Kd.N_drewN|apply Kd.N_drew));exact HO_7.out)) (by decide) hg)
         have n1_ := Aside0.mk (Kd.N_afterv (ok := (fun k_ => (w.heap.size ≤ k_) ∧ some k_ ≠ (.slice Ao21 y269.length co21 : Value).ownBlock)) (by (with_reducible repeat (first|apply Kd.N_alloc|apply Kd.N_drewN|apply Kd.N_drew));exact Kd.N_mono HO277.out (fun _ hk => ⟨⟨hk.1, hk.2.2⟩, hk.2.1⟩)) hg hat)
         have n2_ := Aside0.mk (hb)
         have n3_ := Aside0.mk (ho)
         clear HO271
         clear HO277
         clear HB
         clear HO_7
         have HO271 := n0_
         have HO277 := n1_
         have HB := n2_
         have HO280 := n3_
         clear n0_ n1_ n2_ n3_
         clear ho hb hg hat
         refine hK.out _ _ ⟨((HB.out.cell (World.block_lt_of_cell? w _ hw264_0)).trans hw264_0), ((HB.out.cell (World.block_lt_of_cell? w _ hw268_0)).trans hw268_0)⟩ (fun hHeld => ?_)
         clear hK K
         refine norm_ (a' := ?_) ?_ ?_
         rotate_left
         ·show Act.put _ (some 30) _ = _
          simp only [Act.put, List.setIfInBounds_toArray, List.set_cons_zero, List.set_cons_succ, i64_w, i32_w]
          rfl
         refine pure_ (i := 15) (N := some 7) (v := ?_) (a' := ?_) #[true, true, true, true, true, true, true, true, true, true, true, true, true, true, true, true] rfl rfl (any_of HT_.out (by kernel_rfl)) (fun _ _ _ h => h) (Or.inl ⟨by rfl, ?_⟩) ?_ ?_
         rotate_left
         ·intro w'
          go_simp
          with_reducible rfl
         rotate_left
         ·simp only [Act.put, List.setIfInBounds_toArray, List.set_cons_zero, List.set_cons_succ, i64_w, i32_w]
          rfl
         refine done_ (done_of HT_.out (by kernel_rfl)) ?_
         try go_wp2
         go_roundg k1
         case measure => have := HK1.out;omega
         case rel => exact ⟨(y278), (wrap64 (x8_1 + 1)), (by first|rfl|(simp;done)|(simp [*];done)), H', ⟨by have := HK1.out;omega⟩, ⟨by (with_reducible repeat (first|apply Kd.N_alloc|apply Kd.N_drewN|apply Kd.N_drew));exact Kd.N_mono HO280.out (fun _ hk => hk.1)⟩, ⟨by repeat (first|(with_reducible first|exact HB.out|apply below_alloc|apply pw_below_drewN|apply below_drew1)|exact HB.out)⟩⟩
        ·rw [if_neg c11] at H
         exact absurd H (by simp)
       ·rw [if_neg c10] at H
        exact absurd H (by simp)
      ·rw [if_neg c9] at H
       exact absurd H (by simp)
     ·rw [if_neg c8] at H
      exact absurd H (by simp)
    ·rw [if_neg c7] at H
     exact absurd H (by simp)
   ·rw [if_neg c6] at H
    have c6b0 : decide (x8_1 < (l0.length : Int)) = false := decide_eq_false c6
    clear c6
    replace H := Option.bind_eq_some_iff.mp H
    obtain ⟨t281, A270, H⟩ := H
    replace H : (some t281) = some r := H
    have A27 := Aside0.mk A270
    clear A270
    obtain rfl := Option.some.inj H
    obtain ⟨Ao28, co28, eo28⟩ := Kd.N_slice HO_7.out
    subst eo28
    go_wp2_with (first|((with_reducible refine gate_callee (f := 90) rfl ?_);refine goesL_ (some 33) rfl rfl Try.func90 (by kernel_rfl) rfl #[.slice Ao28 x7_1.length co28, .int .i64 a2] rfl (by (try simp only [List.map_toArray, List.map_cons, List.map_nil]);first|done|rfl|(simp only [List.length_drop, List.length_take];rfl)) ?_;(with_reducible refine (spec_l5Reduce.calls k1 _ _ x7_1 a2 t281 _ ?side1 ?side2 A27.out).mono ?_);(case side1 => repeat (first|exact (Kd.N_reads' HO_7.out).2.2|(with_reducible refine Kd.C_alloc ?_ _)|(with_reducible refine Kd.C_drewN ?_ _)|(with_reducible refine Kd.C_drew ?_)));(case side2 => exact (Kd.N_reads' HO_7.out).2.1);rintro e w29 ⟨v282, rfl, ho0, hb⟩;refine ⟨_, rfl, ?_⟩;have n0_ := Aside0.mk (Kd.N_elder' (by (with_reducible repeat (first|apply Kd.N_alloc|apply Kd.N_drewN|apply Kd.N_drew));exact HO_7.out) (by first|exact Kd.N_base ho0|exact Kd.S_base ho0) hb);have n1_ := Aside0.mk (Kd.N_lower (Kd.N_mono (ok' := fun k_ => (w.heap.size ≤ k_) ∧ some k_ ≠ (.slice Ao28 x7_1.length co28 : Value).ownBlock) ho0 (fun k_ hk_ => ⟨(Nat.le_trans (below_size (by repeat first|(with_reducible first|exact HB.out|apply below_alloc|apply pw_below_drewN|apply below_drew1)|exact HB.out)) hk_), (Kd.fresh' (Kd.N_lt (by (with_reducible repeat (first|apply Kd.N_alloc|apply Kd.N_drewN|apply Kd.N_drew));exact HO_7.out)) k_ hk_)⟩)) (below_size (by repeat first|(with_reducible first|exact HB.out|apply below_alloc|apply pw_below_drewN|apply below_drew1)|exact HB.out)));have n2_ := Aside0.mk (below_step (by repeat first|(with_reducible first|exact HB.out|apply below_alloc|apply pw_below_drewN|apply below_drew1)|exact HB.out) hb);clear HO_7;clear HB;have HO_7 := n0_;have HO283 := n1_;have HB := n2_;clear n0_ n1_ n2_;(try clear hb);(try clear hb2);(try clear hk);(try clear hi);(try clear ho0)))
    go_ret
    exact ⟨_, by first|rfl|(simp [errW_none, errW_some] <;> rfl)|(simp [*, errW_none, errW_some] <;> rfl), by (with_reducible repeat (first|apply Kd.N_alloc|apply Kd.N_drewN|apply Kd.N_drew));exact Kd.N_mono HO283.out (fun _ hk => hk.1), by repeat (first|(with_reducible first|exact HB.out|apply below_alloc|apply pw_below_drewN|apply below_drew1)|exact HB.out)⟩
def spec_l1In.f (a0 : Int) (a1 : Int) (a2 : Int) : Option (Bool) := if a0 ≥ a1 then (some (decide (a0 ≤ a2))) else (some false)
set_option maxHeartbeats 8000000 in
set_option maxRecDepth 100000 in
theorem spec_l1In.calls (a0 : Int) (a1 : Int) (a2 : Int) (r : Bool) (w : World) (h : spec_l1In.f a0 a1 a2 = some r) :
  Calls Try.prog 83 #[.int .i64 a0, .int .i64 a1, .int .i64 a2] w fun e w' => e = .returned (.bool r) ∧ Drawn0 w w' := by
 have H : (if a0 ≥ a1 then (some (decide (a0 ≤ a2))) else (some false)) = some r := h
 clear h
 by_cases c4 : a0 ≥ a1
 ·rw [if_pos c4] at H
  have c4b0 : decide (a1 ≤ a0) = true := decide_eq_true c4
  clear c4
  obtain rfl := Option.some.inj H
  go_enter Try.func83, Try.ntmps83
  go_wp2
  go_ret
  exact ⟨by first|rfl|(simp;done)|(simp [*];done), by repeat (first|exact Drawn0.refl _|apply Drawn0.step)⟩
 ·rw [if_neg c4] at H
  have c4b0 : decide (a1 ≤ a0) = false := decide_eq_false c4
  clear c4
  obtain rfl := Option.some.inj H
  go_enter Try.func83, Try.ntmps83
  go_wp2
  go_ret
  exact ⟨by first|rfl|(simp;done)|(simp [*];done), by repeat (first|exact Drawn0.refl _|apply Drawn0.step)⟩
end Go.Proofs.Ytojkepidkmkmpaa.PFnExactSolutionOf
end
section
namespace Go.Proofs.Ytojkepidkmkmpaa.PFnExactSolutionOf
open Go.RowKit Go.Proofs.YtojkepidkmkmpaaW.PrintWords Go.Proofs.YtojkepidkmkmpaaW.PrintLast Go.Proofs.YtojkepidkmkmpaaW.PrintMore
attribute [local go_sem] max2_int min2_int max_two min_two max_three min_three max_four min_four
set_option linter.unusedVariables false
set_option linter.unusedSimpArgs false
mutual
def spec_IsMatrix.j0 : Nat → List (List Int) → Int → Bool → Option (Bool)
 | 0, _, _, _ => none
 | k + 1, x0, x1, x14 => if x14 = true then (some false) else (spec_IsMatrix.l0 k x0 x1 0)
def spec_IsMatrix.l0 : Nat → List (List Int) → Int → Int → Option (Bool)
 | 0, _, _, _ => none
 | k + 1, x0, x1, x5 => if x5 < (x0.length : Int) then (if 0 ≤ x5 then (if ((rd_L1 x0 x5).length : Int) = x1 then (spec_IsMatrix.l1 k x0 x1 x5 0) else (some false)) else (none)) else (some true)
def spec_IsMatrix.l1 : Nat → List (List Int) → Int → Int → Int → Option (Bool)
 | 0, _, _, _, _ => none
 | k + 1, x0, x1, x5, x6 => if x6 < x1 then (if 0 ≤ x5 then (if x5 < (x0.length : Int) then (if 0 ≤ x6 then (if x6 < ((rd_L1 x0 x5).length : Int) then ((spec_l1In.f (rd (rd_L1 x0 x5) x6) (-2) 2).bind fun t288 => (if t288 = true then (spec_IsMatrix.l1 k x0 x1 x5 (wrap64 (x6 + 1))) else (some false))) else (none)) else (none)) else (none)) else (none)) else (spec_IsMatrix.l0 k x0 x1 (wrap64 (x5 + 1)))
end
def spec_IsMatrix.f (k : Nat) (l0 : List (List Int)) (a1 : Int) : Option (Bool) := (spec_l1In.f a1 1 6).bind fun t284 => (if t284 = true then (spec_IsMatrix.j0 k l0 a1 (decide ((l0.length : Int) > 12))) else (spec_IsMatrix.j0 k l0 a1 true))
theorem spec_IsMatrix.mono_l : ∀ k, (∀ y0 y1 y2, LeO (spec_IsMatrix.j0 k y0 y1 y2) (spec_IsMatrix.j0 (k + 1) y0 y1 y2)) ∧ (∀ y0 y1 y2, LeO (spec_IsMatrix.l0 k y0 y1 y2) (spec_IsMatrix.l0 (k + 1) y0 y1 y2)) ∧ (∀ y0 y1 y2 y3, LeO (spec_IsMatrix.l1 k y0 y1 y2 y3) (spec_IsMatrix.l1 (k + 1) y0 y1 y2 y3))
|0 => ⟨fun _ _ _ r h => by simp [spec_IsMatrix.j0] at h, fun _ _ _ r h => by simp [spec_IsMatrix.l0] at h, fun _ _ _ _ r h => by simp [spec_IsMatrix.l1] at h⟩
|k + 1 => by
  obtain ⟨ih0, ih1, ih2⟩ := spec_IsMatrix.mono_l k
  refine ⟨?_, ?_, ?_⟩
  ·intro y0 y1 y2
   unfold spec_IsMatrix.j0
   repeat' first
  |(with_reducible exact ih0 _ _ _)
  |(with_reducible exact ih1 _ _ _)
  |(with_reducible exact ih2 _ _ _ _)
  |(with_reducible exact LeO.refl _)
  |(with_reducible exact LeO.none _)
  |(with_reducible refine LeO.ite ?_ ?_)
  |(with_reducible refine LeO.bind ?_ (fun _ => ?_))
  |exact ih0 _ _ _
  |exact ih1 _ _ _
  |exact ih2 _ _ _ _
  |exact LeO.none _
  |refine LeO.ite ?_ ?_
  |refine LeO.bind ?_ (fun _ => ?_)
  ·intro y0 y1 y2
   unfold spec_IsMatrix.l0
   repeat' first
  |(with_reducible exact ih0 _ _ _)
  |(with_reducible exact ih1 _ _ _)
  |(with_reducible exact ih2 _ _ _ _)
  |(with_reducible exact LeO.refl _)
  |(with_reducible exact LeO.none _)
  |(with_reducible refine LeO.ite ?_ ?_)
  |(with_reducible refine LeO.bind ?_ (fun _ => ?_))
  |exact ih0 _ _ _
  |exact ih1 _ _ _
  |exact ih2 _ _ _ _
  |exact LeO.none _
  |refine LeO.ite ?_ ?_
  |refine LeO.bind ?_ (fun _ => ?_)
  ·intro y0 y1 y2 y3
   unfold spec_IsMatrix.l1
   repeat' first
  |(with_reducible exact ih0 _ _ _)
  |(with_reducible exact ih1 _ _ _)
  |(with_reducible exact ih2 _ _ _ _)
  |(with_reducible exact LeO.refl _)
  |(with_reducible exact LeO.none _)
  |(with_reducible refine LeO.ite ?_ ?_)
  |(with_reducible refine LeO.bind ?_ (fun _ => ?_))
  |exact ih0 _ _ _
  |exact ih1 _ _ _
  |exact ih2 _ _ _ _
  |exact LeO.none _
  |refine LeO.ite ?_ ?_
  |refine LeO.bind ?_ (fun _ => ?_)
theorem spec_IsMatrix.mono : ∀ a0 a1 k, LeO (spec_IsMatrix.f k a0 a1) (spec_IsMatrix.f (k + 1) a0 a1) := by
 intro a0 a1 k
 obtain ⟨ih0, ih1, ih2⟩ := spec_IsMatrix.mono_l k
 unfold spec_IsMatrix.f
 repeat' first
  |(with_reducible exact ih0 _ _ _)
  |(with_reducible exact ih1 _ _ _)
  |(with_reducible exact ih2 _ _ _ _)
  |(with_reducible exact LeO.refl _)
  |(with_reducible exact LeO.none _)
  |(with_reducible refine LeO.ite ?_ ?_)
  |(with_reducible refine LeO.bind ?_ (fun _ => ?_))
  |exact ih0 _ _ _
  |exact ih1 _ _ _
  |exact ih2 _ _ _ _
  |exact LeO.none _
  |refine LeO.ite ?_ ?_
  |refine LeO.bind ?_ (fun _ => ?_)
set_option maxHeartbeats 8000000 in
set_option maxRecDepth 100000 in
theorem spec_IsMatrix.calls (k : Nat) (A0 : Option Addr) (c0 : Nat) (l0 : List (List Int)) (a1 : Int) (r : Bool) (w : World) (hr0 : Kd.C (Kd.slice 3 (Kd.int .i64)) w A0 l0.length l0) (hc0 : l0.length ≤ c0) (h : spec_IsMatrix.f k l0 a1 = some r) :
  Calls Try.prog 41 #[.slice A0 l0.length c0, .int .i64 a1] w fun e w' => e = .returned (.bool r) ∧ Drawn0 w w' := by
 have HR0 := Aside0.mk hr0
 have HC0 := Aside0.mk hc0
 clear hr0 hc0
 have H : ((spec_l1In.f a1 1 6).bind fun t284 => (if t284 = true then (spec_IsMatrix.j0 k l0 a1 (decide ((l0.length : Int) > 12))) else (spec_IsMatrix.j0 k l0 a1 true))) = some r := h
 clear h
 have HC3 := Aside0.mk H
 clear H
 go_enter Try.func41, Try.ntmps41
 go_upto_region 1 with (fail)
 go_cut [14] (fun v14 wc => ∃ (kq : Nat) (x14_2 : Bool), v14 = .bool x14_2 ∧ Aside0 (spec_IsMatrix.j0 kq l0 a1 x14_2 = some r) ∧ Aside0 (kq ≤ k) ∧ Drawn0 w wc)
 case first =>
  have H := HC3.out
  clear HC3
  replace H := Option.bind_eq_some_iff.mp H
  obtain ⟨t284, A40, H⟩ := H
  replace H : (if t284 = true then (spec_IsMatrix.j0 k l0 a1 (decide ((l0.length : Int) > 12))) else (spec_IsMatrix.j0 k l0 a1 true)) = some r := H
  have A4 := Aside0.mk A40
  clear A40
  by_cases c5 : t284 = true
  ·subst c5
   have H1 : (spec_IsMatrix.j0 k l0 a1 (decide ((l0.length : Int) > 12))) = some r := by rw [if_pos rfl] at H;exact H
   clear H
   have H := H1
   clear H1
   have H' := Aside0.mk H
   clear H
   go_wp2_with (first|((with_reducible refine gate_callee (f := 83) rfl ?_);refine goesL_ (some 8) rfl rfl Try.func83 (by kernel_rfl) rfl #[.int .i64 a1, .int .i64 1, .int .i64 6] rfl (by (try simp only [List.map_toArray, List.map_cons, List.map_nil]);first|done|rfl|(simp only [List.length_drop, List.length_take];rfl)) ?_;(with_reducible refine (spec_l1In.calls a1 1 6 true _ A4.out).mono ?_);rintro e w' ⟨rfl, ⟨nd, rfl⟩⟩;refine ⟨_, rfl, ?_⟩))
   go_meet
   case rel => exact ⟨_, (decide ((l0.length : Int) > 12)), (by first|rfl|(simp;done)|(simp [*];done)), H', ⟨by first|omega|exact Nat.le_refl _⟩, by repeat (first|exact Drawn0.refl _|apply Drawn0.step)⟩
  ·replace c5 := Bool.eq_false_iff.mpr c5
   subst c5
   have H1 : (spec_IsMatrix.j0 k l0 a1 true) = some r := by rw [if_neg (show ¬ (false = true) by decide)] at H;exact H
   clear H
   have H := H1
   clear H1
   have H' := Aside0.mk H
   clear H
   go_wp2_with (first|((with_reducible refine gate_callee (f := 83) rfl ?_);refine goesL_ (some 8) rfl rfl Try.func83 (by kernel_rfl) rfl #[.int .i64 a1, .int .i64 1, .int .i64 6] rfl (by (try simp only [List.map_toArray, List.map_cons, List.map_nil]);first|done|rfl|(simp only [List.length_drop, List.length_take];rfl)) ?_;(with_reducible refine (spec_l1In.calls a1 1 6 false _ A4.out).mono ?_);rintro e w' ⟨rfl, ⟨nd, rfl⟩⟩;refine ⟨_, rfl, ?_⟩))
   go_meet
   case rel => exact ⟨_, (true), (by first|rfl|(simp;done)|(simp [*];done)), H', ⟨by first|omega|exact Nat.le_refl _⟩, by repeat (first|exact Drawn0.refl _|apply Drawn0.step)⟩
 case rest =>
  clear HC3
  try clear p2
  try clear c4
  try clear c5
  obtain ⟨kq, x14_2, rfl, HA, HJ2, ⟨mc2, rfl⟩⟩ := hcut
  cases kq with
 |zero => exact absurd HA.out (by simp [spec_IsMatrix.j0])
 |succ kj2 =>
   have H := HA.out
   clear HA
   simp only [spec_IsMatrix.j0] at H
   by_cases c6 : x14_2 = true
   ·subst c6
    have H1 : (some false) = some r := by rw [if_pos rfl] at H;exact H
    clear H
    have H := H1
    clear H1
    obtain rfl := Option.some.inj H
    go_wp2
    go_ret
    exact ⟨by first|rfl|(simp;done)|(simp [*];done), by repeat (first|exact Drawn0.refl _|apply Drawn0.step)⟩
   ·replace c6 := Bool.eq_false_iff.mpr c6
    subst c6
    have H1 : (spec_IsMatrix.l0 kj2 l0 a1 0) = some r := by rw [if_neg (show ¬ (false = true) by decide)] at H;exact H
    clear H
    have H := H1
    clear H1
    have H' := Aside0.mk H
    clear H
    go_wp2
    go_loopg [5] kj2 (fun kq v5 w' => ∃ (x5_2 : Int), v5 = .int .i64 x5_2 ∧ Aside0 (spec_IsMatrix.l0 kq l0 a1 x5_2 = some r) ∧ Aside0 (kq ≤ kj2) ∧ Drawn0 w w')
    case atStart => exact ⟨(0), (by first|rfl|(simp;done)|(simp [*];done)), H', ⟨Nat.le_refl _⟩, by repeat (first|exact Drawn0.refl _|apply Drawn0.step)⟩
    case round =>
     clear H'
     try clear c2
     try clear p2
     try clear c4
     try clear c5
     try clear c6
     try clear p2
     obtain ⟨x5_2, rfl, HA, HK2, ⟨m2, rfl⟩⟩ := hrel
     cases gk with
    |zero => exact absurd HA.out (by simp [spec_IsMatrix.l0])
    |succ k2 =>
      have H := HA.out
      clear HA
      simp only [spec_IsMatrix.l0] at H
      by_cases c7 : x5_2 < (l0.length : Int)
      ·rw [if_pos c7] at H
       have c7b0 : decide (x5_2 < (l0.length : Int)) = true := decide_eq_true c7
       clear c7
       by_cases c8 : 0 ≤ x5_2
       ·rw [if_pos c8] at H
        have c8b0 : decide (0 ≤ x5_2) = true := decide_eq_true c8
        clear c8
        by_cases c9 : ((rd_L1 l0 x5_2).length : Int) = a1
        ·rw [if_pos c9] at H
         have c9b0 : (((rd_L1 l0 x5_2).length : Int) == a1) = true := beq_iff_eq.mpr c9
         have c9b1 : (((rd_L1 l0 x5_2).length : Int) != a1) = false := bne_eq_false_iff_eq.mpr c9
         clear c9
         have H' := Aside0.mk H
         clear H
         have p285 : 0 ≤ (x5_2 : Int) := of_decide_eq_true (by first|(with_reducible assumption)|assumption)
         have q285 : x5_2 < (l0.length : Int) := of_decide_eq_true (by first|(with_reducible assumption)|assumption)
         obtain ⟨ad285, A285_0, c285_0, e285, hx285_0, hl285_0, hi285_0⟩ := at_L1 HR0.out x5_2 p285 q285
         cases e285
         have HR285_0 := Aside0.mk hi285_0
         have HC285_0 := Aside0.mk hl285_0
         clear hi285_0 hl285_0
         replace p285 := eq_true p285
         replace q285 := eq_true q285
         go_wp2
         go_loopg [6] k2 (fun kq v6 w' => ∃ (x6_3 : Int), v6 = .int .i64 x6_3 ∧ Aside0 (spec_IsMatrix.l1 kq l0 a1 x5_2 x6_3 = some r) ∧ Aside0 (kq ≤ k2) ∧ Drawn0 w w')
         case atStart => exact ⟨(0), (by first|rfl|(simp;done)|(simp [*];done)), H', ⟨Nat.le_refl _⟩, by repeat (first|exact Drawn0.refl _|apply Drawn0.step)⟩
         case round =>
          clear H'
          try clear c2
          try clear p2
          try clear q2
          try clear hx2
          try clear c4
          try clear c5
          try clear c6
          try clear c7
          try clear c7b0
          try clear c8
          try clear c8b0
          try clear c9
          try clear c9b0
          try clear c9b1
          try clear hx285_0
          try clear p2
          try clear p285
          try clear q285
          obtain ⟨x6_3, rfl, HA, HK3, ⟨m3, rfl⟩⟩ := hrel
          cases gk with
         |zero => exact absurd HA.out (by simp [spec_IsMatrix.l1])
         |succ k3 =>
           have H := HA.out
           clear HA
           simp only [spec_IsMatrix.l1] at H
           by_cases c10 : x6_3 < a1
           ·rw [if_pos c10] at H
            have c10b0 : decide (x6_3 < a1) = true := decide_eq_true c10
            clear c10
            by_cases c11 : 0 ≤ x5_2
            ·rw [if_pos c11] at H
             have c11b0 : decide (0 ≤ x5_2) = true := decide_eq_true c11
             clear c11
             by_cases c12 : x5_2 < (l0.length : Int)
             ·rw [if_pos c12] at H
              have c12b0 : decide (x5_2 < (l0.length : Int)) = true := decide_eq_true c12
              clear c12
              by_cases c13 : 0 ≤ x6_3
              ·rw [if_pos c13] at H
               have c13b0 : decide (0 ≤ x6_3) = true := decide_eq_true c13
               clear c13
               by_cases c14 : x6_3 < ((rd_L1 l0 x5_2).length : Int)
               ·rw [if_pos c14] at H
                have c14b0 : decide (x6_3 < ((rd_L1 l0 x5_2).length : Int)) = true := decide_eq_true c14
                clear c14
                replace H := Option.bind_eq_some_iff.mp H
                obtain ⟨t288, A150, H⟩ := H
                replace H : (if t288 = true then (spec_IsMatrix.l1 k3 l0 a1 x5_2 (wrap64 (x6_3 + 1))) else (some false)) = some r := H
                have A15 := Aside0.mk A150
                clear A150
                by_cases c16 : t288 = true
                ·subst c16
                 have H1 : (spec_IsMatrix.l1 k3 l0 a1 x5_2 (wrap64 (x6_3 + 1))) = some r := by rw [if_pos rfl] at H;exact H
                 clear H
                 have H := H1
                 clear H1
                 have H' := Aside0.mk H
                 clear H
                 have p286 : 0 ≤ (x5_2 : Int) := of_decide_eq_true (by first|(with_reducible assumption)|assumption)
                 have q286 : x5_2 < (l0.length : Int) := of_decide_eq_true (by first|(with_reducible assumption)|assumption)
                 obtain ⟨ad286, A286_0, c286_0, e286, hx286_0, hl286_0, hi286_0⟩ := at_L1 HR0.out x5_2 p286 q286
                 obtain rfl : ad285 = ad286 := (by injection e286)
                 have HR286_0 := Aside0.mk hi286_0
                 have HC286_0 := Aside0.mk hl286_0
                 clear hi286_0 hl286_0
                 replace p286 := eq_true p286
                 replace q286 := eq_true q286
                 have p287 : 0 ≤ (x6_3 : Int) := of_decide_eq_true (by first|(with_reducible assumption)|assumption)
                 have q287 : x6_3 < ((rd_L1 l0 x5_2).length : Int) := of_decide_eq_true (by first|(with_reducible assumption)|assumption)
                 obtain ⟨ad287, e287, hx287_0⟩ := Kd.at_int HR286_0.out x6_3 p287 q287
                 cases e287
                 replace p287 := eq_true p287
                 replace q287 := eq_true q287
                 go_wp2_with (first|((with_reducible refine gate_callee (f := 83) rfl ?_);refine goesL_ (some 40) rfl rfl Try.func83 (by kernel_rfl) rfl #[.int .i64 (rd (rd_L1 l0 x5_2) x6_3), .int .i64 (-2), .int .i64 2] rfl (by (try simp only [List.map_toArray, List.map_cons, List.map_nil]);first|done|rfl|(simp only [List.length_drop, List.length_take];rfl)) ?_;(with_reducible refine (spec_l1In.calls (rd (rd_L1 l0 x5_2) x6_3) (-2) 2 true _ A15.out).mono ?_);rintro e w' ⟨rfl, ⟨nd, rfl⟩⟩;refine ⟨_, rfl, ?_⟩))
                 go_roundg k3
                 case measure => have := HJ2.out;have := HK2.out;have := HK3.out;omega
                 case rel => exact ⟨(wrap64 (x6_3 + 1)), (by first|rfl|(simp;done)|(simp [*];done)), H', ⟨by have := HJ2.out;have := HK2.out;have := HK3.out;omega⟩, by repeat (first|exact Drawn0.refl _|apply Drawn0.step)⟩
                ·replace c16 := Bool.eq_false_iff.mpr c16
                 subst c16
                 have H1 : (some false) = some r := by rw [if_neg (show ¬ (false = true) by decide)] at H;exact H
                 clear H
                 have H := H1
                 clear H1
                 obtain rfl := Option.some.inj H
                 have p286 : 0 ≤ (x5_2 : Int) := of_decide_eq_true (by first|(with_reducible assumption)|assumption)
                 have q286 : x5_2 < (l0.length : Int) := of_decide_eq_true (by first|(with_reducible assumption)|assumption)
                 obtain ⟨ad286, A286_0, c286_0, e286, hx286_0, hl286_0, hi286_0⟩ := at_L1 HR0.out x5_2 p286 q286
                 obtain rfl : ad285 = ad286 := (by injection e286)
                 have HR286_0 := Aside0.mk hi286_0
                 have HC286_0 := Aside0.mk hl286_0
                 clear hi286_0 hl286_0
                 replace p286 := eq_true p286
                 replace q286 := eq_true q286
                 have p287 : 0 ≤ (x6_3 : Int) := of_decide_eq_true (by first|(with_reducible assumption)|assumption)
                 have q287 : x6_3 < ((rd_L1 l0 x5_2).length : Int) := of_decide_eq_true (by first|(with_reducible assumption)|assumption)
                 obtain ⟨ad287, e287, hx287_0⟩ := Kd.at_int HR286_0.out x6_3 p287 q287
                 cases e287
                 replace p287 := eq_true p287
                 replace q287 := eq_true q287
                 go_wp2_with (first|((with_reducible refine gate_callee (f := 83) rfl ?_);refine goesL_ (some 40) rfl rfl Try.func83 (by kernel_rfl) rfl #[.int .i64 (rd (rd_L1 l0 x5_2) x6_3), .int .i64 (-2), .int .i64 2] rfl (by (try simp only [List.map_toArray, List.map_cons, List.map_nil]);first|done|rfl|(simp only [List.length_drop, List.length_take];rfl)) ?_;(with_reducible refine (spec_l1In.calls (rd (rd_L1 l0 x5_2) x6_3) (-2) 2 false _ A15.out).mono ?_);rintro e w' ⟨rfl, ⟨nd, rfl⟩⟩;refine ⟨_, rfl, ?_⟩))
                 go_ret
                 exact ⟨by first|rfl|(simp;done)|(simp [*];done), by repeat (first|exact Drawn0.refl _|apply Drawn0.step)⟩
               ·rw [if_neg c14] at H
                exact absurd H (by simp)
              ·rw [if_neg c13] at H
               exact absurd H (by simp)
             ·rw [if_neg c12] at H
              exact absurd H (by simp)
            ·rw [if_neg c11] at H
             exact absurd H (by simp)
           ·rw [if_neg c10] at H
            have c10b0 : decide (x6_3 < a1) = false := decide_eq_false c10
            clear c10
            have H' := Aside0.mk H
            clear H
            go_wp2
            go_roundg k3
            case measure => have := HJ2.out;have := HK2.out;have := HK3.out;omega
            case rel => exact ⟨(wrap64 (x5_2 + 1)), (by first|rfl|(simp;done)|(simp [*];done)), H', ⟨by have := HJ2.out;have := HK2.out;have := HK3.out;omega⟩, by repeat (first|exact Drawn0.refl _|apply Drawn0.step)⟩
        ·rw [if_neg c9] at H
         have c9b0 : (((rd_L1 l0 x5_2).length : Int) == a1) = false := beq_eq_false_iff_ne.mpr c9
         have c9b1 : (((rd_L1 l0 x5_2).length : Int) != a1) = true := bne_iff_ne.mpr c9
         obtain rfl := Option.some.inj H
         have p285 : 0 ≤ (x5_2 : Int) := of_decide_eq_true (by first|(with_reducible assumption)|assumption)
         have q285 : x5_2 < (l0.length : Int) := of_decide_eq_true (by first|(with_reducible assumption)|assumption)
         obtain ⟨ad285, A285_0, c285_0, e285, hx285_0, hl285_0, hi285_0⟩ := at_L1 HR0.out x5_2 p285 q285
         cases e285
         have HR285_0 := Aside0.mk hi285_0
         have HC285_0 := Aside0.mk hl285_0
         clear hi285_0 hl285_0
         replace p285 := eq_true p285
         replace q285 := eq_true q285
         go_wp2
         go_ret
         exact ⟨by first|rfl|(simp;done)|(simp [*];done), by repeat (first|exact Drawn0.refl _|apply Drawn0.step)⟩
       ·rw [if_neg c8] at H
        exact absurd H (by simp)
      ·rw [if_neg c7] at H
       have c7b0 : decide (x5_2 < (l0.length : Int)) = false := decide_eq_false c7
       clear c7
       obtain rfl := Option.some.inj H
       go_wp2
       go_ret
       exact ⟨by first|rfl|(simp;done)|(simp [*];done), by repeat (first|exact Drawn0.refl _|apply Drawn0.step)⟩
def spec_IsSystem.l0 : Nat → List (List Int) → List Int → Int → Int → Option (Bool)
 | 0, _, _, _, _ => none
 | k + 1, x0, x1, x2, x7 => if x7 < (x1.length : Int) then (if 0 ≤ x7 then ((spec_l1In.f (rd x1 x7) (-1000) 1000).bind fun t290 => (if t290 = true then (spec_IsSystem.l0 k x0 x1 x2 (wrap64 (x7 + 1))) else (some false))) else (none)) else ((spec_IsMatrix.f k x0 x2).bind fun t291 => (if t291 = true then (some ((x1.length : Int) == (x0.length : Int))) else (some false)))
def spec_IsSystem.f (k : Nat) (l0 : List (List Int)) (l1 : List Int) (a2 : Int) : Option (Bool) := spec_IsSystem.l0 k l0 l1 a2 0
theorem spec_IsSystem.mono_l : ∀ k, (∀ y0 y1 y2 y3, LeO (spec_IsSystem.l0 k y0 y1 y2 y3) (spec_IsSystem.l0 (k + 1) y0 y1 y2 y3))
|0 => fun _ _ _ _ r h => by simp [spec_IsSystem.l0] at h
|k + 1 => by
  have ih0 := spec_IsSystem.mono_l k
  ·intro y0 y1 y2 y3
   unfold spec_IsSystem.l0
   repeat' first
  |(with_reducible exact ih0 _ _ _ _)
  |(with_reducible exact spec_IsMatrix.mono _ _ _)
  |(with_reducible exact LeO.refl _)
  |(with_reducible exact LeO.none _)
  |(with_reducible refine LeO.ite ?_ ?_)
  |(with_reducible refine LeO.bind ?_ (fun _ => ?_))
  |exact ih0 _ _ _ _
  |exact spec_IsMatrix.mono _ _ _
  |exact LeO.none _
  |refine LeO.ite ?_ ?_
  |refine LeO.bind ?_ (fun _ => ?_)
theorem spec_IsSystem.mono : ∀ a0 a1 a2 k, LeO (spec_IsSystem.f k a0 a1 a2) (spec_IsSystem.f (k + 1) a0 a1 a2) := by
 intro a0 a1 a2 k
 have ih0 := spec_IsSystem.mono_l k
 unfold spec_IsSystem.f
 repeat' first
  |(with_reducible exact ih0 _ _ _ _)
  |(with_reducible exact spec_IsMatrix.mono _ _ _)
  |(with_reducible exact LeO.refl _)
  |(with_reducible exact LeO.none _)
  |(with_reducible refine LeO.ite ?_ ?_)
  |(with_reducible refine LeO.bind ?_ (fun _ => ?_))
  |exact ih0 _ _ _ _
  |exact spec_IsMatrix.mono _ _ _
  |exact LeO.none _
  |refine LeO.ite ?_ ?_
  |refine LeO.bind ?_ (fun _ => ?_)
set_option maxHeartbeats 8000000 in
set_option maxRecDepth 100000 in
theorem spec_IsSystem.calls (k : Nat) (A0 : Option Addr) (c0 : Nat) (l0 : List (List Int)) (A1 : Option Addr) (c1 : Nat) (l1 : List Int) (a2 : Int) (r : Bool) (w : World) (hr0 : Kd.C (Kd.slice 3 (Kd.int .i64)) w A0 l0.length l0) (hc0 : l0.length ≤ c0) (hr1 : Kd.C (Kd.int .i64) w A1 l1.length l1) (hc1 : l1.length ≤ c1) (h : spec_IsSystem.f k l0 l1 a2 = some r) :
  Calls Try.prog 84 #[.slice A0 l0.length c0, .slice A1 l1.length c1, .int .i64 a2] w fun e w' => e = .returned (.bool r) ∧ Drawn0 w w' := by
 have HR0 := Aside0.mk hr0
 have HC0 := Aside0.mk hc0
 clear hr0 hc0
 have HR1 := Aside0.mk hr1
 have HC1 := Aside0.mk hc1
 clear hr1 hc1
 have H : (spec_IsSystem.l0 k l0 l1 a2 0) = some r := h
 clear h
 have H' := Aside0.mk H
 clear H
 go_enter Try.func84, Try.ntmps84
 go_wp2
 go_loopg [7] k (fun kq v7 w' => ∃ (x7_1 : Int), v7 = .int .i64 x7_1 ∧ Aside0 (spec_IsSystem.l0 kq l0 l1 a2 x7_1 = some r) ∧ Aside0 (kq ≤ k) ∧ Drawn0 w w')
 case atStart => exact ⟨(0), (by first|rfl|(simp;done)|(simp [*];done)), H', ⟨Nat.le_refl _⟩, by repeat (first|exact Drawn0.refl _|apply Drawn0.step)⟩
 case round =>
  clear H'
  try clear c1
  try clear p2
  obtain ⟨x7_1, rfl, HA, HK1, ⟨m1, rfl⟩⟩ := hrel
  cases gk with
 |zero => exact absurd HA.out (by simp [spec_IsSystem.l0])
 |succ k1 =>
   have H := HA.out
   clear HA
   simp only [spec_IsSystem.l0] at H
   by_cases c4 : x7_1 < (l1.length : Int)
   ·rw [if_pos c4] at H
    have c4b0 : decide (x7_1 < (l1.length : Int)) = true := decide_eq_true c4
    clear c4
    by_cases c5 : 0 ≤ x7_1
    ·rw [if_pos c5] at H
     have c5b0 : decide (0 ≤ x7_1) = true := decide_eq_true c5
     clear c5
     replace H := Option.bind_eq_some_iff.mp H
     obtain ⟨t290, A60, H⟩ := H
     replace H : (if t290 = true then (spec_IsSystem.l0 k1 l0 l1 a2 (wrap64 (x7_1 + 1))) else (some false)) = some r := H
     have A6 := Aside0.mk A60
     clear A60
     by_cases c7 : t290 = true
     ·subst c7
      have H1 : (spec_IsSystem.l0 k1 l0 l1 a2 (wrap64 (x7_1 + 1))) = some r := by rw [if_pos rfl] at H;exact H
      clear H
      have H := H1
      clear H1
      have H' := Aside0.mk H
      clear H
      have p289 : 0 ≤ (x7_1 : Int) := of_decide_eq_true (by first|(with_reducible assumption)|assumption)
      have q289 : x7_1 < (l1.length : Int) := of_decide_eq_true (by first|(with_reducible assumption)|assumption)
      obtain ⟨ad289, e289, hx289_0⟩ := Kd.at_int HR1.out x7_1 p289 q289
      cases e289
      replace p289 := eq_true p289
      replace q289 := eq_true q289
      go_wp2_with (first|((with_reducible refine gate_callee (f := 83) rfl ?_);refine goesL_ (some 18) rfl rfl Try.func83 (by kernel_rfl) rfl #[.int .i64 (rd l1 x7_1), .int .i64 (-1000), .int .i64 1000] rfl (by (try simp only [List.map_toArray, List.map_cons, List.map_nil]);first|done|rfl|(simp only [List.length_drop, List.length_take];rfl)) ?_;(with_reducible refine (spec_l1In.calls (rd l1 x7_1) (-1000) 1000 true _ A6.out).mono ?_);rintro e w' ⟨rfl, ⟨nd, rfl⟩⟩;refine ⟨_, rfl, ?_⟩))
      go_roundg k1
      case measure => have := HK1.out;omega
      case rel => exact ⟨(wrap64 (x7_1 + 1)), (by first|rfl|(simp;done)|(simp [*];done)), H', ⟨by have := HK1.out;omega⟩, by repeat (first|exact Drawn0.refl _|apply Drawn0.step)⟩
     ·replace c7 := Bool.eq_false_iff.mpr c7
      subst c7
      have H1 : (some false) = some r := by rw [if_neg (show ¬ (false = true) by decide)] at H;exact H
      clear H
      have H := H1
      clear H1
      obtain rfl := Option.some.inj H
      have p289 : 0 ≤ (x7_1 : Int) := of_decide_eq_true (by first|(with_reducible assumption)|assumption)
      have q289 : x7_1 < (l1.length : Int) := of_decide_eq_true (by first|(with_reducible assumption)|assumption)
      obtain ⟨ad289, e289, hx289_0⟩ := Kd.at_int HR1.out x7_1 p289 q289
      cases e289
      replace p289 := eq_true p289
      replace q289 := eq_true q289
      go_wp2_with (first|((with_reducible refine gate_callee (f := 83) rfl ?_);refine goesL_ (some 18) rfl rfl Try.func83 (by kernel_rfl) rfl #[.int .i64 (rd l1 x7_1), .int .i64 (-1000), .int .i64 1000] rfl (by (try simp only [List.map_toArray, List.map_cons, List.map_nil]);first|done|rfl|(simp only [List.length_drop, List.length_take];rfl)) ?_;(with_reducible refine (spec_l1In.calls (rd l1 x7_1) (-1000) 1000 false _ A6.out).mono ?_);rintro e w' ⟨rfl, ⟨nd, rfl⟩⟩;refine ⟨_, rfl, ?_⟩))
      go_ret
      exact ⟨by first|rfl|(simp;done)|(simp [*];done), by repeat (first|exact Drawn0.refl _|apply Drawn0.step)⟩
    ·rw [if_neg c5] at H
     exact absurd H (by simp)
   ·rw [if_neg c4] at H
    have c4b0 : decide (x7_1 < (l1.length : Int)) = false := decide_eq_false c4
    clear c4
    replace H := Option.bind_eq_some_iff.mp H
    obtain ⟨t291, A80, H⟩ := H
    replace H : (if t291 = true then (some ((l1.length : Int) == (l0.length : Int))) else (some false)) = some r := H
    have A8 := Aside0.mk A80
    clear A80
    by_cases c9 : t291 = true
    ·subst c9
     have H1 : (some ((l1.length : Int) == (l0.length : Int))) = some r := by rw [if_pos rfl] at H;exact H
     clear H
     have H := H1
     clear H1
     obtain rfl := Option.some.inj H
     go_wp2_with (first|((with_reducible refine gate_callee (f := 41) rfl ?_);refine goesL_ (some 22) rfl rfl Try.func41 (by kernel_rfl) rfl #[.slice A0 l0.length c0, .int .i64 a2] rfl (by (try simp only [List.map_toArray, List.map_cons, List.map_nil]);first|done|rfl|(simp only [List.length_drop, List.length_take];rfl)) ?_;(with_reducible refine (spec_IsMatrix.calls k1 _ _ l0 a2 true _ ?side1 ?side2 A8.out).mono ?_);(case side1 => repeat (first|exact HR0.out|(with_reducible refine Kd.C_alloc ?_ _)|(with_reducible refine Kd.C_drewN ?_ _)|(with_reducible refine Kd.C_drew ?_)));(case side2 => exact HC0.out);rintro e w' ⟨rfl, ⟨nd, rfl⟩⟩;refine ⟨_, rfl, ?_⟩))
     go_ret
     exact ⟨by first|rfl|(simp;done)|(simp [*];done), by repeat (first|exact Drawn0.refl _|apply Drawn0.step)⟩
    ·replace c9 := Bool.eq_false_iff.mpr c9
     subst c9
     have H1 : (some false) = some r := by rw [if_neg (show ¬ (false = true) by decide)] at H;exact H
     clear H
     have H := H1
     clear H1
     obtain rfl := Option.some.inj H
     go_wp2_with (first|((with_reducible refine gate_callee (f := 41) rfl ?_);refine goesL_ (some 22) rfl rfl Try.func41 (by kernel_rfl) rfl #[.slice A0 l0.length c0, .int .i64 a2] rfl (by (try simp only [List.map_toArray, List.map_cons, List.map_nil]);first|done|rfl|(simp only [List.length_drop, List.length_take];rfl)) ?_;(with_reducible refine (spec_IsMatrix.calls k1 _ _ l0 a2 false _ ?side1 ?side2 A8.out).mono ?_);(case side1 => repeat (first|exact HR0.out|(with_reducible refine Kd.C_alloc ?_ _)|(with_reducible refine Kd.C_drewN ?_ _)|(with_reducible refine Kd.C_drew ?_)));(case side2 => exact HC0.out);rintro e w' ⟨rfl, ⟨nd, rfl⟩⟩;refine ⟨_, rfl, ?_⟩))
     go_ret
     exact ⟨by first|rfl|(simp;done)|(simp [*];done), by repeat (first|exact Drawn0.refl _|apply Drawn0.step)⟩
def spec_l6Good.l0 : Nat → List (List Int) → Int → Int → Option (Bool)
 | 0, _, _, _ => none
 | k + 1, x0, x1, x5 => if x5 < (x0.length : Int) then (if 0 ≤ x5 then ((spec_l5Lead.f k (rd_L1 x0 x5)).bind fun t293 => (if t293 = x1 then (some false) else (spec_l6Good.l0 k x0 x1 (wrap64 (x5 + 1))))) else (none)) else (some true)
def spec_l6Good.f (k : Nat) (l0 : List (List Int)) (a1 : Int) : Option (Bool) := spec_l6Good.l0 k l0 a1 0
theorem spec_l6Good.mono_l : ∀ k, (∀ y0 y1 y2, LeO (spec_l6Good.l0 k y0 y1 y2) (spec_l6Good.l0 (k + 1) y0 y1 y2))
|0 => fun _ _ _ r h => by simp [spec_l6Good.l0] at h
|k + 1 => by
  have ih0 := spec_l6Good.mono_l k
  ·intro y0 y1 y2
   unfold spec_l6Good.l0
   repeat' first
  |(with_reducible exact ih0 _ _ _)
  |(with_reducible exact spec_l5Lead.mono _ _)
  |(with_reducible exact LeO.refl _)
  |(with_reducible exact LeO.none _)
  |(with_reducible refine LeO.ite ?_ ?_)
  |(with_reducible refine LeO.bind ?_ (fun _ => ?_))
  |exact ih0 _ _ _
  |exact spec_l5Lead.mono _ _
  |exact LeO.none _
  |refine LeO.ite ?_ ?_
  |refine LeO.bind ?_ (fun _ => ?_)
theorem spec_l6Good.mono : ∀ a0 a1 k, LeO (spec_l6Good.f k a0 a1) (spec_l6Good.f (k + 1) a0 a1) := by
 intro a0 a1 k
 have ih0 := spec_l6Good.mono_l k
 unfold spec_l6Good.f
 repeat' first
  |(with_reducible exact ih0 _ _ _)
  |(with_reducible exact spec_l5Lead.mono _ _)
  |(with_reducible exact LeO.refl _)
  |(with_reducible exact LeO.none _)
  |(with_reducible refine LeO.ite ?_ ?_)
  |(with_reducible refine LeO.bind ?_ (fun _ => ?_))
  |exact ih0 _ _ _
  |exact spec_l5Lead.mono _ _
  |exact LeO.none _
  |refine LeO.ite ?_ ?_
  |refine LeO.bind ?_ (fun _ => ?_)
set_option maxHeartbeats 8000000 in
set_option maxRecDepth 100000 in
theorem spec_l6Good.calls (k : Nat) (A0 : Option Addr) (c0 : Nat) (l0 : List (List Int)) (a1 : Int) (r : Bool) (w : World) (hr0 : Kd.C (Kd.slice 3 (Kd.int .i64)) w A0 l0.length l0) (hc0 : l0.length ≤ c0) (h : spec_l6Good.f k l0 a1 = some r) :
  Calls Try.prog 89 #[.slice A0 l0.length c0, .int .i64 a1] w fun e w' => e = .returned (.bool r) ∧ Drawn0 w w' := by
 have HR0 := Aside0.mk hr0
 have HC0 := Aside0.mk hc0
 clear hr0 hc0
 have H : (spec_l6Good.l0 k l0 a1 0) = some r := h
 clear h
 have H' := Aside0.mk H
 clear H
 go_enter Try.func89, Try.ntmps89
 go_wp2
 go_loopg [5] k (fun kq v5 w' => ∃ (x5_1 : Int), v5 = .int .i64 x5_1 ∧ Aside0 (spec_l6Good.l0 kq l0 a1 x5_1 = some r) ∧ Aside0 (kq ≤ k) ∧ Drawn0 w w')
 case atStart => exact ⟨(0), (by first|rfl|(simp;done)|(simp [*];done)), H', ⟨Nat.le_refl _⟩, by repeat (first|exact Drawn0.refl _|apply Drawn0.step)⟩
 case round =>
  clear H'
  try clear p2
  obtain ⟨x5_1, rfl, HA, HK1, ⟨m1, rfl⟩⟩ := hrel
  cases gk with
 |zero => exact absurd HA.out (by simp [spec_l6Good.l0])
 |succ k1 =>
   have H := HA.out
   clear HA
   simp only [spec_l6Good.l0] at H
   by_cases c3 : x5_1 < (l0.length : Int)
   ·rw [if_pos c3] at H
    have c3b0 : decide (x5_1 < (l0.length : Int)) = true := decide_eq_true c3
    clear c3
    by_cases c4 : 0 ≤ x5_1
    ·rw [if_pos c4] at H
     have c4b0 : decide (0 ≤ x5_1) = true := decide_eq_true c4
     clear c4
     replace H := Option.bind_eq_some_iff.mp H
     obtain ⟨t293, A50, H⟩ := H
     replace H : (if t293 = a1 then (some false) else (spec_l6Good.l0 k1 l0 a1 (wrap64 (x5_1 + 1)))) = some r := H
     have A5 := Aside0.mk A50
     clear A50
     by_cases c6 : t293 = a1
     ·rw [if_pos c6] at H
      have c6b0 : (t293 == a1) = true := beq_iff_eq.mpr c6
      have c6b1 : (t293 != a1) = false := bne_eq_false_iff_eq.mpr c6
      clear c6
      obtain rfl := Option.some.inj H
      have p292 : 0 ≤ (x5_1 : Int) := of_decide_eq_true (by first|(with_reducible assumption)|assumption)
      have q292 : x5_1 < (l0.length : Int) := of_decide_eq_true (by first|(with_reducible assumption)|assumption)
      obtain ⟨ad292, A292_0, c292_0, e292, hx292_0, hl292_0, hi292_0⟩ := at_L1 HR0.out x5_1 p292 q292
      cases e292
      have HR292_0 := Aside0.mk hi292_0
      have HC292_0 := Aside0.mk hl292_0
      clear hi292_0 hl292_0
      replace p292 := eq_true p292
      replace q292 := eq_true q292
      go_wp2_with (first|((with_reducible refine gate_callee (f := 69) rfl ?_);refine goesL_ (some 16) rfl rfl Try.func69 (by kernel_rfl) rfl #[.slice A292_0 (rd_L1 l0 x5_1).length c292_0] rfl (by (try simp only [List.map_toArray, List.map_cons, List.map_nil]);first|done|rfl|(simp only [List.length_drop, List.length_take];rfl)) ?_;(with_reducible refine (spec_l5Lead.calls k1 _ _ (rd_L1 l0 x5_1) t293 _ ?side1 ?side2 A5.out).mono ?_);(case side1 => repeat (first|exact HR292_0.out|(with_reducible refine Kd.C_alloc ?_ _)|(with_reducible refine Kd.C_drewN ?_ _)|(with_reducible refine Kd.C_drew ?_)));(case side2 => exact HC292_0.out);rintro e w' ⟨rfl, ⟨nd, rfl⟩⟩;refine ⟨_, rfl, ?_⟩))
      go_ret
      exact ⟨by first|rfl|(simp;done)|(simp [*];done), by repeat (first|exact Drawn0.refl _|apply Drawn0.step)⟩
     ·rw [if_neg c6] at H
      have c6b0 : (t293 == a1) = false := beq_eq_false_iff_ne.mpr c6
      have c6b1 : (t293 != a1) = true := bne_iff_ne.mpr c6
      have H' := Aside0.mk H
      clear H
      have p292 : 0 ≤ (x5_1 : Int) := of_decide_eq_true (by first|(with_reducible assumption)|assumption)
      have q292 : x5_1 < (l0.length : Int) := of_decide_eq_true (by first|(with_reducible assumption)|assumption)
      obtain ⟨ad292, A292_0, c292_0, e292, hx292_0, hl292_0, hi292_0⟩ := at_L1 HR0.out x5_1 p292 q292
      cases e292
      have HR292_0 := Aside0.mk hi292_0
      have HC292_0 := Aside0.mk hl292_0
      clear hi292_0 hl292_0
      replace p292 := eq_true p292
      replace q292 := eq_true q292
      go_wp2_with (first|((with_reducible refine gate_callee (f := 69) rfl ?_);refine goesL_ (some 16) rfl rfl Try.func69 (by kernel_rfl) rfl #[.slice A292_0 (rd_L1 l0 x5_1).length c292_0] rfl (by (try simp only [List.map_toArray, List.map_cons, List.map_nil]);first|done|rfl|(simp only [List.length_drop, List.length_take];rfl)) ?_;(with_reducible refine (spec_l5Lead.calls k1 _ _ (rd_L1 l0 x5_1) t293 _ ?side1 ?side2 A5.out).mono ?_);(case side1 => repeat (first|exact HR292_0.out|(with_reducible refine Kd.C_alloc ?_ _)|(with_reducible refine Kd.C_drewN ?_ _)|(with_reducible refine Kd.C_drew ?_)));(case side2 => exact HC292_0.out);rintro e w' ⟨rfl, ⟨nd, rfl⟩⟩;refine ⟨_, rfl, ?_⟩))
      go_roundg k1
      case measure => have := HK1.out;omega
      case rel => exact ⟨(wrap64 (x5_1 + 1)), (by first|rfl|(simp;done)|(simp [*];done)), H', ⟨by have := HK1.out;omega⟩, by repeat (first|exact Drawn0.refl _|apply Drawn0.step)⟩
    ·rw [if_neg c4] at H
     exact absurd H (by simp)
   ·rw [if_neg c3] at H
    have c3b0 : decide (x5_1 < (l0.length : Int)) = false := decide_eq_false c3
    clear c3
    obtain rfl := Option.some.inj H
    go_wp2
    go_ret
    exact ⟨by first|rfl|(simp;done)|(simp [*];done), by repeat (first|exact Drawn0.refl _|apply Drawn0.step)⟩
def spec_IsSolvable.f (k : Nat) (l0 : List (List Int)) (l1 : List Int) (a2 : Int) : Option (Bool) := (spec_IsSystem.f k l0 l1 a2).bind fun t294 => (if t294 = true then ((spec_l6Rows.f k l0 l1 a2).bind fun t295 => ((spec_l6Good.f k t295 a2).bind fun t298 => (some t298))) else (some false))
theorem spec_IsSolvable.mono : ∀ a0 a1 a2 k, LeO (spec_IsSolvable.f k a0 a1 a2) (spec_IsSolvable.f (k + 1) a0 a1 a2) := by
 intro a0 a1 a2 k
 unfold spec_IsSolvable.f
 repeat' first
  |(with_reducible exact spec_IsSystem.mono _ _ _ _)
  |(with_reducible exact spec_l6Good.mono _ _ _)
  |(with_reducible exact spec_l6Rows.mono _ _ _ _)
  |(with_reducible exact LeO.refl _)
  |(with_reducible exact LeO.none _)
  |(with_reducible refine LeO.ite ?_ ?_)
  |(with_reducible refine LeO.bind ?_ (fun _ => ?_))
  |exact spec_IsSystem.mono _ _ _ _
  |exact spec_l6Good.mono _ _ _
  |exact spec_l6Rows.mono _ _ _ _
  |exact LeO.none _
  |refine LeO.ite ?_ ?_
  |refine LeO.bind ?_ (fun _ => ?_)
set_option maxHeartbeats 8000000 in
set_option maxRecDepth 100000 in
theorem spec_IsSolvable.calls (k : Nat) (A0 : Option Addr) (c0 : Nat) (l0 : List (List Int)) (A1 : Option Addr) (c1 : Nat) (l1 : List Int) (a2 : Int) (r : Bool) (w : World) (hr0 : Kd.C (Kd.slice 3 (Kd.int .i64)) w A0 l0.length l0) (hc0 : l0.length ≤ c0) (hr1 : Kd.C (Kd.int .i64) w A1 l1.length l1) (hc1 : l1.length ≤ c1) (h : spec_IsSolvable.f k l0 l1 a2 = some r) :
  Calls Try.prog 49 #[.slice A0 l0.length c0, .slice A1 l1.length c1, .int .i64 a2] w fun e w' => e = .returned (.bool r) ∧ Below w.heap.size w w' := by
 have HR0 := Aside0.mk hr0
 have HC0 := Aside0.mk hc0
 clear hr0 hc0
 have HR1 := Aside0.mk hr1
 have HC1 := Aside0.mk hc1
 clear hr1 hc1
 have HB := Aside0.mk (Below.refl w.heap.size w)
 have H : ((spec_IsSystem.f k l0 l1 a2).bind fun t294 => (if t294 = true then ((spec_l6Rows.f k l0 l1 a2).bind fun t295 => ((spec_l6Good.f k t295 a2).bind fun t298 => (some t298))) else (some false))) = some r := h
 clear h
 replace H := Option.bind_eq_some_iff.mp H
 obtain ⟨t294, A40, H⟩ := H
 replace H : (if t294 = true then ((spec_l6Rows.f k l0 l1 a2).bind fun t295 => ((spec_l6Good.f k t295 a2).bind fun t298 => (some t298))) else (some false)) = some r := H
 have A4 := Aside0.mk A40
 clear A40
 by_cases c5 : t294 = true
 ·subst c5
  have H1 : ((spec_l6Rows.f k l0 l1 a2).bind fun t295 => ((spec_l6Good.f k t295 a2).bind fun t298 => (some t298))) = some r := by rw [if_pos rfl] at H;exact H
  clear H
  have H := H1
  clear H1
  replace H := Option.bind_eq_some_iff.mp H
  obtain ⟨t295, A60, H⟩ := H
  replace H : ((spec_l6Good.f k t295 a2).bind fun t298 => (some t298)) = some r := H
  have A6 := Aside0.mk A60
  clear A60
  replace H := Option.bind_eq_some_iff.mp H
  obtain ⟨t298, A70, H⟩ := H
  replace H : (some t298) = some r := H
  have A7 := Aside0.mk A70
  clear A70
  obtain rfl := Option.some.inj H
  go_enter Try.func49, Try.ntmps49
  go_wp2_with (first|((with_reducible refine gate_callee (f := 84) rfl ?_);refine goesL_ (some 10) rfl rfl Try.func84 (by kernel_rfl) rfl #[.slice A0 l0.length c0, .slice A1 l1.length c1, .int .i64 a2] rfl (by (try simp only [List.map_toArray, List.map_cons, List.map_nil]);first|done|rfl|(simp only [List.length_drop, List.length_take];rfl)) ?_;(with_reducible refine (spec_IsSystem.calls k _ _ l0 _ _ l1 a2 true _ ?side1 ?side2 ?side3 ?side4 A4.out).mono ?_);(case side1 => repeat (first|exact HR0.out|(with_reducible refine Kd.C_alloc ?_ _)|(with_reducible refine Kd.C_drewN ?_ _)|(with_reducible refine Kd.C_drew ?_)));(case side2 => exact HC0.out);(case side3 => repeat (first|exact HR1.out|(with_reducible refine Kd.C_alloc ?_ _)|(with_reducible refine Kd.C_drewN ?_ _)|(with_reducible refine Kd.C_drew ?_)));(case side4 => exact HC1.out);rintro e w' ⟨rfl, ⟨nd, rfl⟩⟩;refine ⟨_, rfl, ?_⟩)|(go_at_call 68;(with_reducible refine (spec_l6Rows.calls k _ _ l0 _ _ l1 a2 t295 _ ?side1 ?side2 ?side3 ?side4 A6.out).mono ?_);(case side1 => repeat (first|exact HR0.out|(with_reducible refine Kd.C_alloc ?_ _)|(with_reducible refine Kd.C_drewN ?_ _)|(with_reducible refine Kd.C_drew ?_)));(case side2 => exact HC0.out);(case side3 => repeat (first|exact HR1.out|(with_reducible refine Kd.C_alloc ?_ _)|(with_reducible refine Kd.C_drewN ?_ _)|(with_reducible refine Kd.C_drew ?_)));(case side4 => exact HC1.out);rintro e w8 ⟨v296, rfl, ho0, hb⟩;have n0_ := Aside0.mk (Kd.N_lower (Kd.N_mono (ok' := fun k_ => True) ho0 (fun k_ hk_ => trivial)) (below_size (by repeat first|(with_reducible first|exact HB.out|apply below_alloc|apply pw_below_drewN|apply below_drew1)|exact HB.out)));have n1_ := Aside0.mk (below_step (by repeat first|(with_reducible first|exact HB.out|apply below_alloc|apply pw_below_drewN|apply below_drew1)|exact HB.out) hb);clear HB;have HO297 := n0_;have HB := n1_;clear n0_ n1_;(try clear hb);(try clear hb2);(try clear hk);(try clear hi);(try clear ho0);obtain ⟨Ao9, co9, eo9⟩ := Kd.N_slice HO297.out;subst eo9)|(go_at_call 89;(with_reducible refine (spec_l6Good.calls k _ _ t295 a2 t298 _ ?side1 ?side2 A7.out).mono ?_);(case side1 => repeat (first|exact (Kd.N_reads' HO297.out).2.2|(with_reducible refine Kd.C_alloc ?_ _)|(with_reducible refine Kd.C_drewN ?_ _)|(with_reducible refine Kd.C_drew ?_)));(case side2 => exact (Kd.N_reads' HO297.out).2.1);rintro e w' ⟨rfl, ⟨nd, rfl⟩⟩))
  go_ret
  exact ⟨by first|rfl|(simp [errW_none, errW_some] <;> rfl)|(simp [*, errW_none, errW_some] <;> rfl), by repeat (first|(with_reducible first|exact HB.out|apply below_alloc|apply pw_below_drewN|apply below_drew1)|exact HB.out)⟩
 ·replace c5 := Bool.eq_false_iff.mpr c5
  subst c5
  have H1 : (some false) = some r := by rw [if_neg (show ¬ (false = true) by decide)] at H;exact H
  clear H
  have H := H1
  clear H1
  obtain rfl := Option.some.inj H
  go_enter Try.func49, Try.ntmps49
  go_wp2_with (first|((with_reducible refine gate_callee (f := 84) rfl ?_);refine goesL_ (some 10) rfl rfl Try.func84 (by kernel_rfl) rfl #[.slice A0 l0.length c0, .slice A1 l1.length c1, .int .i64 a2] rfl (by (try simp only [List.map_toArray, List.map_cons, List.map_nil]);first|done|rfl|(simp only [List.length_drop, List.length_take];rfl)) ?_;(with_reducible refine (spec_IsSystem.calls k _ _ l0 _ _ l1 a2 false _ ?side1 ?side2 ?side3 ?side4 A4.out).mono ?_);(case side1 => repeat (first|exact HR0.out|(with_reducible refine Kd.C_alloc ?_ _)|(with_reducible refine Kd.C_drewN ?_ _)|(with_reducible refine Kd.C_drew ?_)));(case side2 => exact HC0.out);(case side3 => repeat (first|exact HR1.out|(with_reducible refine Kd.C_alloc ?_ _)|(with_reducible refine Kd.C_drewN ?_ _)|(with_reducible refine Kd.C_drew ?_)));(case side4 => exact HC1.out);rintro e w' ⟨rfl, ⟨nd, rfl⟩⟩;refine ⟨_, rfl, ?_⟩))
  go_ret
  exact ⟨by first|rfl|(simp [errW_none, errW_some] <;> rfl)|(simp [*, errW_none, errW_some] <;> rfl), by repeat (first|(with_reducible first|exact HB.out|apply below_alloc|apply pw_below_drewN|apply below_drew1)|exact HB.out)⟩
def spec_IsRatio.f (k : Nat) (a0_0 : Int) (a0_1 : Int) : Option (Bool) := (spec_l1In.f a0_0 (-1000000000) 1000000000).bind fun t300 => (if t300 = true then ((spec_l1In.f a0_1 1 1000000000).bind fun t301 => (if t301 = true then ((spec_l4Gcd.f k a0_0 a0_1).bind fun t302 => (some (t302 == 1))) else (some false))) else (some false))
theorem spec_IsRatio.mono : ∀ a0 a1 k, LeO (spec_IsRatio.f k a0 a1) (spec_IsRatio.f (k + 1) a0 a1) := by
 intro a0 a1 k
 unfold spec_IsRatio.f
 repeat' first
  |(with_reducible exact spec_l4Gcd.mono _ _ _)
  |(with_reducible exact LeO.refl _)
  |(with_reducible exact LeO.none _)
  |(with_reducible refine LeO.ite ?_ ?_)
  |(with_reducible refine LeO.bind ?_ (fun _ => ?_))
  |exact spec_l4Gcd.mono _ _ _
  |exact LeO.none _
  |refine LeO.ite ?_ ?_
  |refine LeO.bind ?_ (fun _ => ?_)
set_option maxHeartbeats 8000000 in
set_option maxRecDepth 100000 in
theorem spec_IsRatio.calls (k : Nat) (a0_0 : Int) (a0_1 : Int) (r : Bool) (w : World) (h : spec_IsRatio.f k a0_0 a0_1 = some r) :
  Calls Try.prog 85 #[.agg #[.int .i64 a0_0, .int .i64 a0_1]] w fun e w' => e = .returned (.bool r) ∧ Below w.heap.size w w' := by
 have hu26 := Try.underlying26
 have HB := Aside0.mk (Below.refl w.heap.size w)
 have H : ((spec_l1In.f a0_0 (-1000000000) 1000000000).bind fun t300 => (if t300 = true then ((spec_l1In.f a0_1 1 1000000000).bind fun t301 => (if t301 = true then ((spec_l4Gcd.f k a0_0 a0_1).bind fun t302 => (some (t302 == 1))) else (some false))) else (some false))) = some r := h
 clear h
 replace H := Option.bind_eq_some_iff.mp H
 obtain ⟨t300, A20, H⟩ := H
 replace H : (if t300 = true then ((spec_l1In.f a0_1 1 1000000000).bind fun t301 => (if t301 = true then ((spec_l4Gcd.f k a0_0 a0_1).bind fun t302 => (some (t302 == 1))) else (some false))) else (some false)) = some r := H
 have A2 := Aside0.mk A20
 clear A20
 by_cases c3 : t300 = true
 ·subst c3
  have H1 : ((spec_l1In.f a0_1 1 1000000000).bind fun t301 => (if t301 = true then ((spec_l4Gcd.f k a0_0 a0_1).bind fun t302 => (some (t302 == 1))) else (some false))) = some r := by rw [if_pos rfl] at H;exact H
  clear H
  have H := H1
  clear H1
  replace H := Option.bind_eq_some_iff.mp H
  obtain ⟨t301, A40, H⟩ := H
  replace H : (if t301 = true then ((spec_l4Gcd.f k a0_0 a0_1).bind fun t302 => (some (t302 == 1))) else (some false)) = some r := H
  have A4 := Aside0.mk A40
  clear A40
  by_cases c5 : t301 = true
  ·subst c5
   have H1 : ((spec_l4Gcd.f k a0_0 a0_1).bind fun t302 => (some (t302 == 1))) = some r := by rw [if_pos rfl] at H;exact H
   clear H
   have H := H1
   clear H1
   replace H := Option.bind_eq_some_iff.mp H
   obtain ⟨t302, A60, H⟩ := H
   replace H : (some (t302 == 1)) = some r := H
   have A6 := Aside0.mk A60
   clear A60
   obtain rfl := Option.some.inj H
   go_enter Try.func85, Try.ntmps85
   go_wp2_with (first|((with_reducible refine gate_dst (N := 1) rfl ?_);refine box_event ?hg (N := 1) ?hd (cs := #[.int .i64 a0_0, .int .i64 a0_1]) (t := 26) ?hr ?_;(case hd => rfl);(case hg => rfl);(case hr => first|(go_simp;done)|(go_simp;rfl));intro gb299 hg w7 hbox hb;have n0_ := Aside0.mk (below_step (by repeat first|(with_reducible first|exact HB.out|apply below_alloc|apply pw_below_drewN|apply below_drew1)|exact HB.out) hb);have n1_ := Aside0.mk (hbox);have n2_ := Aside0.mk ((by rw [hg];exact (below_size (by repeat first|(with_reducible first|exact HB.out|apply below_alloc|apply pw_below_drewN|apply below_drew1)|exact HB.out)) : w.heap.size ≤ gb299));have n3_ := Aside0.mk ((by rw [hg];exact (below_size (by repeat first|(with_reducible first|exact HB.out|apply below_alloc|apply pw_below_drewN|apply below_drew1)|exact HB.out)) : w.heap.size ≤ gb299));clear HB;have HB := n0_;have BK299 := n1_;have GW299 := n2_;have GE299 := n3_;clear n0_ n1_ n2_ n3_;clear hb hbox hg;have hcz8_0 : w7.cell? ⟨gb299, 0, none⟩ = some (.int .i64 a0_0) := (blk_cell BK299.out 0).trans rfl;have hcz8_1 : w7.cell? ⟨gb299, 1, none⟩ = some (.int .i64 a0_1) := (blk_cell BK299.out 1).trans rfl;have hfz8_0 := blk_frozen BK299.out 0;have hfz8_1 := blk_frozen BK299.out 1)|((with_reducible refine gate_callee (f := 83) rfl ?_);refine goesL_ (some 5) rfl rfl Try.func83 (by kernel_rfl) rfl #[.int .i64 a0_0, .int .i64 (-1000000000), .int .i64 1000000000] rfl (by (try simp only [List.map_toArray, List.map_cons, List.map_nil]);first|done|rfl|(simp only [List.length_drop, List.length_take];rfl)) ?_;(with_reducible refine (spec_l1In.calls a0_0 (-1000000000) 1000000000 true _ A2.out).mono ?_);rintro e w' ⟨rfl, ⟨nd, rfl⟩⟩;refine ⟨_, rfl, ?_⟩)|(go_at_call 83;(with_reducible refine (spec_l1In.calls a0_1 1 1000000000 true _ A4.out).mono ?_);rintro e w' ⟨rfl, ⟨nd, rfl⟩⟩)|(go_at_call 102;(with_reducible refine (spec_l4Gcd.calls k a0_0 a0_1 t302 _ A6.out).mono ?_);rintro e w' ⟨rfl, ⟨nd, rfl⟩⟩))
   go_ret
   exact ⟨by first|rfl|(simp [errW_none, errW_some] <;> rfl)|(simp [*, errW_none, errW_some] <;> rfl), by repeat (first|(with_reducible first|exact HB.out|apply below_alloc|apply pw_below_drewN|apply below_drew1|refine below_set ?_ GE299.out)|exact HB.out)⟩
  ·replace c5 := Bool.eq_false_iff.mpr c5
   subst c5
   have H1 : (some false) = some r := by rw [if_neg (show ¬ (false = true) by decide)] at H;exact H
   clear H
   have H := H1
   clear H1
   obtain rfl := Option.some.inj H
   go_enter Try.func85, Try.ntmps85
   go_wp2_with (first|((with_reducible refine gate_dst (N := 1) rfl ?_);refine box_event ?hg (N := 1) ?hd (cs := #[.int .i64 a0_0, .int .i64 a0_1]) (t := 26) ?hr ?_;(case hd => rfl);(case hg => rfl);(case hr => first|(go_simp;done)|(go_simp;rfl));intro gb299 hg w9 hbox hb;have n0_ := Aside0.mk (below_step (by repeat first|(with_reducible first|exact HB.out|apply below_alloc|apply pw_below_drewN|apply below_drew1)|exact HB.out) hb);have n1_ := Aside0.mk (hbox);have n2_ := Aside0.mk ((by rw [hg];exact (below_size (by repeat first|(with_reducible first|exact HB.out|apply below_alloc|apply pw_below_drewN|apply below_drew1)|exact HB.out)) : w.heap.size ≤ gb299));have n3_ := Aside0.mk ((by rw [hg];exact (below_size (by repeat first|(with_reducible first|exact HB.out|apply below_alloc|apply pw_below_drewN|apply below_drew1)|exact HB.out)) : w.heap.size ≤ gb299));clear HB;have HB := n0_;have BK299 := n1_;have GW299 := n2_;have GE299 := n3_;clear n0_ n1_ n2_ n3_;clear hb hbox hg;have hcz10_0 : w9.cell? ⟨gb299, 0, none⟩ = some (.int .i64 a0_0) := (blk_cell BK299.out 0).trans rfl;have hcz10_1 : w9.cell? ⟨gb299, 1, none⟩ = some (.int .i64 a0_1) := (blk_cell BK299.out 1).trans rfl;have hfz10_0 := blk_frozen BK299.out 0;have hfz10_1 := blk_frozen BK299.out 1)|((with_reducible refine gate_callee (f := 83) rfl ?_);refine goesL_ (some 5) rfl rfl Try.func83 (by kernel_rfl) rfl #[.int .i64 a0_0, .int .i64 (-1000000000), .int .i64 1000000000] rfl (by (try simp only [List.map_toArray, List.map_cons, List.map_nil]);first|done|rfl|(simp only [List.length_drop, List.length_take];rfl)) ?_;(with_reducible refine (spec_l1In.calls a0_0 (-1000000000) 1000000000 true _ A2.out).mono ?_);rintro e w' ⟨rfl, ⟨nd, rfl⟩⟩;refine ⟨_, rfl, ?_⟩)|(go_at_call 83;(with_reducible refine (spec_l1In.calls a0_1 1 1000000000 false _ A4.out).mono ?_);rintro e w' ⟨rfl, ⟨nd, rfl⟩⟩))
   go_ret
   exact ⟨by first|rfl|(simp [errW_none, errW_some] <;> rfl)|(simp [*, errW_none, errW_some] <;> rfl), by repeat (first|(with_reducible first|exact HB.out|apply below_alloc|apply pw_below_drewN|apply below_drew1|refine below_set ?_ GE299.out)|exact HB.out)⟩
 ·replace c3 := Bool.eq_false_iff.mpr c3
  subst c3
  have H1 : (some false) = some r := by rw [if_neg (show ¬ (false = true) by decide)] at H;exact H
  clear H
  have H := H1
  clear H1
  obtain rfl := Option.some.inj H
  go_enter Try.func85, Try.ntmps85
  go_wp2_with (first|((with_reducible refine gate_dst (N := 1) rfl ?_);refine box_event ?hg (N := 1) ?hd (cs := #[.int .i64 a0_0, .int .i64 a0_1]) (t := 26) ?hr ?_;(case hd => rfl);(case hg => rfl);(case hr => first|(go_simp;done)|(go_simp;rfl));intro gb299 hg w11 hbox hb;have n0_ := Aside0.mk (below_step (by repeat first|(with_reducible first|exact HB.out|apply below_alloc|apply pw_below_drewN|apply below_drew1)|exact HB.out) hb);have n1_ := Aside0.mk (hbox);have n2_ := Aside0.mk ((by rw [hg];exact (below_size (by repeat first|(with_reducible first|exact HB.out|apply below_alloc|apply pw_below_drewN|apply below_drew1)|exact HB.out)) : w.heap.size ≤ gb299));have n3_ := Aside0.mk ((by rw [hg];exact (below_size (by repeat first|(with_reducible first|exact HB.out|apply below_alloc|apply pw_below_drewN|apply below_drew1)|exact HB.out)) : w.heap.size ≤ gb299));clear HB;have HB := n0_;have BK299 := n1_;have GW299 := n2_;have GE299 := n3_;clear n0_ n1_ n2_ n3_;clear hb hbox hg;have hcz12_0 : w11.cell? ⟨gb299, 0, none⟩ = some (.int .i64 a0_0) := (blk_cell BK299.out 0).trans rfl;have hcz12_1 : w11.cell? ⟨gb299, 1, none⟩ = some (.int .i64 a0_1) := (blk_cell BK299.out 1).trans rfl;have hfz12_0 := blk_frozen BK299.out 0;have hfz12_1 := blk_frozen BK299.out 1)|((with_reducible refine gate_callee (f := 83) rfl ?_);refine goesL_ (some 5) rfl rfl Try.func83 (by kernel_rfl) rfl #[.int .i64 a0_0, .int .i64 (-1000000000), .int .i64 1000000000] rfl (by (try simp only [List.map_toArray, List.map_cons, List.map_nil]);first|done|rfl|(simp only [List.length_drop, List.length_take];rfl)) ?_;(with_reducible refine (spec_l1In.calls a0_0 (-1000000000) 1000000000 false _ A2.out).mono ?_);rintro e w' ⟨rfl, ⟨nd, rfl⟩⟩;refine ⟨_, rfl, ?_⟩))
  go_ret
  exact ⟨by first|rfl|(simp [errW_none, errW_some] <;> rfl)|(simp [*, errW_none, errW_some] <;> rfl), by repeat (first|(with_reducible first|exact HB.out|apply below_alloc|apply pw_below_drewN|apply below_drew1|refine below_set ?_ GE299.out)|exact HB.out)⟩
end Go.Proofs.Ytojkepidkmkmpaa.PFnExactSolutionOf
end
section
namespace Go.Proofs.Ytojkepidkmkmpaa.PFnExactSolutionOf
open Go.RowKit Go.Proofs.YtojkepidkmkmpaaW.PrintWords Go.Proofs.YtojkepidkmkmpaaW.PrintLast Go.Proofs.YtojkepidkmkmpaaW.PrintMore
attribute [local go_sem] max2_int min2_int max_two min_two max_three min_three max_four min_four
set_option linter.unusedVariables false
set_option linter.unusedSimpArgs false
def spec_l4Make.j0 : Nat → Int → Int → Option (Int × Int × Bool)
 | 0, _, _ => none
 | k + 1, x0, x1 => (spec_l4Gcd.f k x0 x1).bind fun t304 => (if t304 = 0 then (none) else ((spec_IsRatio.f k (wrap64 (Int.tdiv x0 t304)) (wrap64 (Int.tdiv x1 t304))).bind fun t306 => (if t306 = true then (some (wrap64 (Int.tdiv x0 t304), wrap64 (Int.tdiv x1 t304), true)) else (some (0, 0, false)))))
def spec_l4Make.f (k : Nat) (a0 : Int) (a1 : Int) : Option (Int × Int × Bool) := if a1 = 0 then (some (0, 0, false)) else (if a1 < 0 then (spec_l4Make.j0 k (wrap64 (-a0)) (wrap64 (-a1))) else (spec_l4Make.j0 k a0 a1))
theorem spec_l4Make.mono_l : ∀ k, (∀ y0 y1, LeO (spec_l4Make.j0 k y0 y1) (spec_l4Make.j0 (k + 1) y0 y1))
|0 => fun _ _ r h => by simp [spec_l4Make.j0] at h
|k + 1 => by
  have ih0 := spec_l4Make.mono_l k
  ·intro y0 y1
   unfold spec_l4Make.j0
   repeat' first
  |(with_reducible exact ih0 _ _)
  |(with_reducible exact spec_IsRatio.mono _ _ _)
  |(with_reducible exact spec_l4Gcd.mono _ _ _)
  |(with_reducible exact LeO.refl _)
  |(with_reducible exact LeO.none _)
  |(with_reducible refine LeO.ite ?_ ?_)
  |(with_reducible refine LeO.bind ?_ (fun _ => ?_))
  |exact ih0 _ _
  |exact spec_IsRatio.mono _ _ _
  |exact spec_l4Gcd.mono _ _ _
  |exact LeO.none _
  |refine LeO.ite ?_ ?_
  |refine LeO.bind ?_ (fun _ => ?_)
theorem spec_l4Make.mono : ∀ a0 a1 k, LeO (spec_l4Make.f k a0 a1) (spec_l4Make.f (k + 1) a0 a1) := by
 intro a0 a1 k
 have ih0 := spec_l4Make.mono_l k
 unfold spec_l4Make.f
 repeat' first
  |(with_reducible exact ih0 _ _)
  |(with_reducible exact spec_IsRatio.mono _ _ _)
  |(with_reducible exact spec_l4Gcd.mono _ _ _)
  |(with_reducible exact LeO.refl _)
  |(with_reducible exact LeO.none _)
  |(with_reducible refine LeO.ite ?_ ?_)
  |(with_reducible refine LeO.bind ?_ (fun _ => ?_))
  |exact ih0 _ _
  |exact spec_IsRatio.mono _ _ _
  |exact spec_l4Gcd.mono _ _ _
  |exact LeO.none _
  |refine LeO.ite ?_ ?_
  |refine LeO.bind ?_ (fun _ => ?_)
def spec_l4Make.T7 : Bool × List (List Nat × List Nat) := (true, [([], []), ([], []), ([0, 1], [0, 1]), ([], []), ([], []), ([3, 4], [3, 4]), ([2, 5], [2, 5]), ([], []), ([7, 6, 0, 1, 2, 3, 4, 5, 6, 7], [6, 7])])
def spec_l4Make.B7 : List Nat := [0, 0, 3, 0, 0, 24, 63, 0, 255]
theorem spec_l4Make.tab7 : rtab .any (opsOf Try.f70 7) = spec_l4Make.T7 := by kernel_rfl
theorem spec_l4Make.bits7 : waitsOk spec_l4Make.T7.2 spec_l4Make.B7 = true := by kernel_rfl
set_option maxHeartbeats 8000000 in
set_option maxRecDepth 100000 in
theorem spec_l4Make.calls (k : Nat) (a0 : Int) (a1 : Int) (r1 : Int) (r2 : Int) (r3 : Bool) (w : World) (h : spec_l4Make.f k a0 a1 = some (r1, r2, r3)) :
  Calls Try.prog 70 #[.int .i64 a0, .int .i64 a1] w fun e w' => e = .returned (.tuple #[.agg #[.int .i64 r1, .int .i64 r2], .bool r3]) ∧ Below w.heap.size w w' := by
 have hu26 := Try.underlying26
 have HB := Aside0.mk (Below.refl w.heap.size w)
 have H : (if a1 = 0 then (some (0, 0, false)) else (if a1 < 0 then (spec_l4Make.j0 k (wrap64 (-a0)) (wrap64 (-a1))) else (spec_l4Make.j0 k a0 a1))) = some (r1, r2, r3) := h
 clear h
 by_cases c3 : a1 = 0
 ·rw [if_pos c3] at H
  have c3b0 : (a1 == 0) = true := beq_iff_eq.mpr c3
  have c3b1 : (a1 != 0) = false := bne_eq_false_iff_eq.mpr c3
  clear c3
  simp only [Option.some.injEq, Prod.mk.injEq] at H
  obtain ⟨rfl, rfl, rfl⟩ := H
  go_enter Try.func70, Try.ntmps70
  go_wp2_with (first|((with_reducible refine gate_dst (N := 4) rfl ?_);refine box_event ?hg (N := 4) ?hd (cs := #[.int .i64 0, .int .i64 0]) (t := 26) ?hr ?_;(case hd => rfl);(case hg => rfl);(case hr => first|(go_simp;done)|(go_simp;rfl));intro gb303 hg w4 hbox hb;have n0_ := Aside0.mk (below_step (by repeat first|(with_reducible first|exact HB.out|apply below_alloc|apply pw_below_drewN|apply below_drew1)|exact HB.out) hb);have n1_ := Aside0.mk (hbox);have n2_ := Aside0.mk ((by rw [hg];exact (below_size (by repeat first|(with_reducible first|exact HB.out|apply below_alloc|apply pw_below_drewN|apply below_drew1)|exact HB.out)) : w.heap.size ≤ gb303));have n3_ := Aside0.mk ((by rw [hg];exact (below_size (by repeat first|(with_reducible first|exact HB.out|apply below_alloc|apply pw_below_drewN|apply below_drew1)|exact HB.out)) : w.heap.size ≤ gb303));clear HB;have HB := n0_;have BK303 := n1_;have GW303 := n2_;have GE303 := n3_;clear n0_ n1_ n2_ n3_;clear hb hbox hg;have hcz5_0 : w4.cell? ⟨gb303, 0, none⟩ = some (.int .i64 0) := (blk_cell BK303.out 0).trans rfl;have hcz5_1 : w4.cell? ⟨gb303, 1, none⟩ = some (.int .i64 0) := (blk_cell BK303.out 1).trans rfl;have hfz5_0 := blk_frozen BK303.out 0;have hfz5_1 := blk_frozen BK303.out 1))
  refine bodyPost_ret (results_ct rfl _ _ gb303 26 #[.int .i64 0, .int .i64 0] (0, 0) _ rfl (by (with_reducible repeat (first|refine blk_drewN ?_ _|refine blk_drew ?_|refine blk_alloc ?_ _));refine blk_put (cs := #[.int .i64 0, .int .i64 0]) ?_ 1 _ rfl;(with_reducible repeat (first|refine blk_drewN ?_ _|refine blk_drew ?_|refine blk_alloc ?_ _));refine blk_put (cs := #[.int .i64 0, .int .i64 0]) ?_ 0 _ rfl;(with_reducible repeat (first|refine blk_drewN ?_ _|refine blk_drew ?_|refine blk_alloc ?_ _));exact BK303.out) Try.underlying26 rfl (by kernel_rfl)) rfl ?_
  exact ⟨by first|rfl|(simp [errW_none, errW_some] <;> rfl)|(simp [*, errW_none, errW_some] <;> rfl), by repeat (first|(with_reducible first|exact HB.out|apply below_alloc|apply pw_below_drewN|apply below_drew1|refine below_set ?_ GE303.out)|exact HB.out)⟩
 ·rw [if_neg c3] at H
  have c3b0 : (a1 == 0) = false := beq_eq_false_iff_ne.mpr c3
  have c3b1 : (a1 != 0) = true := bne_iff_ne.mpr c3
  have HC6 := Aside0.mk H
  clear H
  go_enter Try.func70, Try.ntmps70
  go_upto_if 12 with (first|((with_reducible refine gate_dst (N := 4) rfl ?_);refine box_event ?hg (N := 4) ?hd (cs := #[.int .i64 0, .int .i64 0]) (t := 26) ?hr ?_;(case hd => rfl);(case hg => rfl);(case hr => first|(go_simp;done)|(go_simp;rfl));intro gb303 hg w7 hbox hb;have n0_ := Aside0.mk (below_step (by repeat first|(with_reducible first|exact HB.out|apply below_alloc|apply pw_below_drewN|apply below_drew1)|exact HB.out) hb);have n1_ := Aside0.mk (hbox);have n2_ := Aside0.mk ((by rw [hg];exact (below_size (by repeat first|(with_reducible first|exact HB.out|apply below_alloc|apply pw_below_drewN|apply below_drew1)|exact HB.out)) : w.heap.size ≤ gb303));have n3_ := Aside0.mk ((by rw [hg];exact (below_size (by repeat first|(with_reducible first|exact HB.out|apply below_alloc|apply pw_below_drewN|apply below_drew1)|exact HB.out)) : w.heap.size ≤ gb303));clear HB;have HB := n0_;have BK303 := n1_;have GW303 := n2_;have GE303 := n3_;clear n0_ n1_ n2_ n3_;clear hb hbox hg))
  (try simp only [Act.put, List.setIfInBounds_toArray, List.set_cons_zero, List.set_cons_succ])
  go_cut [0, 1] (fun v0 v1 wc => ∃ (kq : Nat) (x0_5 : Int) (x1_5 : Int), v0 = .int .i64 x0_5 ∧ v1 = .int .i64 x1_5 ∧ Aside0 (spec_l4Make.j0 kq x0_5 x1_5 = some (r1, r2, r3)) ∧ Aside0 (kq ≤ k) ∧ Aside0 (wc.heap[gb303]? = some (.cells #[.int .i64 0, .int .i64 0] 26 (0, 0))) ∧ Aside0 (Below w.heap.size w wc))
  case first =>
   have H := HC6.out
   clear HC6
   by_cases c8 : a1 < 0
   ·rw [if_pos c8] at H
    have c8b0 : decide (a1 < 0) = true := decide_eq_true c8
    clear c8
    (first|rw [c8b0]|(simp only [i64_w, i32_w];rw [c8b0])|skip)
    have H' := Aside0.mk H
    clear H
    go_wp2
    go_meet
    case rel => exact ⟨_, (wrap64 (-a0)), (wrap64 (-a1)), (by first|rfl|(simp;done)|(simp [*];done)), (by first|rfl|(simp;done)|(simp [*];done)), H', ⟨by first|omega|exact Nat.le_refl _⟩, ⟨by (with_reducible repeat (first|refine blk_drewN ?_ _|refine blk_drew ?_|refine blk_alloc ?_ _));exact BK303.out⟩, ⟨by repeat (first|(with_reducible first|exact HB.out|apply below_alloc|apply pw_below_drewN|apply below_drew1|refine below_set ?_ GE303.out)|exact HB.out)⟩⟩
   ·rw [if_neg c8] at H
    have c8b0 : decide (a1 < 0) = false := decide_eq_false c8
    clear c8
    (first|rw [c8b0]|(simp only [i64_w, i32_w];rw [c8b0])|skip)
    have H' := Aside0.mk H
    clear H
    go_wp2
    go_meet
    case rel => exact ⟨_, (a0), (a1), (by first|rfl|(simp;done)|(simp [*];done)), (by first|rfl|(simp;done)|(simp [*];done)), H', ⟨by first|omega|exact Nat.le_refl _⟩, ⟨by (with_reducible repeat (first|refine blk_drewN ?_ _|refine blk_drew ?_|refine blk_alloc ?_ _));exact BK303.out⟩, ⟨by repeat (first|(with_reducible first|exact HB.out|apply below_alloc|apply pw_below_drewN|apply below_drew1|refine below_set ?_ GE303.out)|exact HB.out)⟩⟩
  case rest =>
   clear HC6
   try clear p2
   try clear c3
   try clear c3b0
   try clear c3b1
   try clear p6
   try clear c7
   try clear c8
   try clear c8b0
   try clear hcz5_0
   try clear hcz5_1
   try clear hfz5_0
   try clear hfz5_1
   obtain ⟨kq, x0_5, x1_5, rfl, rfl, HA, HJ5, BK303, HB⟩ := hcut
   cases kq with
  |zero => exact absurd HA.out (by simp [spec_l4Make.j0])
  |succ kj5 =>
    have H := HA.out
    clear HA
    simp only [spec_l4Make.j0] at H
    replace H := Option.bind_eq_some_iff.mp H
    obtain ⟨t304, A90, H⟩ := H
    replace H : (if t304 = 0 then (none) else ((spec_IsRatio.f kj5 (wrap64 (Int.tdiv x0_5 t304)) (wrap64 (Int.tdiv x1_5 t304))).bind fun t306 => (if t306 = true then (some (wrap64 (Int.tdiv x0_5 t304), wrap64 (Int.tdiv x1_5 t304), true)) else (some (0, 0, false))))) = some (r1, r2, r3) := H
    have A9 := Aside0.mk A90
    clear A90
    by_cases c10 : t304 = 0
    ·rw [if_pos c10] at H
     exact absurd H (by simp)
    ·rw [if_neg c10] at H
     have c10b0 : (t304 == 0) = false := beq_eq_false_iff_ne.mpr c10
     have c10b1 : (t304 != 0) = true := bne_iff_ne.mpr c10
     replace H := Option.bind_eq_some_iff.mp H
     obtain ⟨t306, A110, H⟩ := H
     replace H : (if t306 = true then (some (wrap64 (Int.tdiv x0_5 t304), wrap64 (Int.tdiv x1_5 t304), true)) else (some (0, 0, false))) = some (r1, r2, r3) := H
     have A11 := Aside0.mk A110
     clear A110
     by_cases c12 : t306 = true
     ·subst c12
      have H1 : (some (wrap64 (Int.tdiv x0_5 t304), wrap64 (Int.tdiv x1_5 t304), true)) = some (r1, r2, r3) := by rw [if_pos rfl] at H;exact H
      clear H
      have H := H1
      clear H1
      simp only [Option.some.injEq, Prod.mk.injEq] at H
      obtain ⟨rfl, rfl, rfl⟩ := H
      try go_wp2_with (first|((with_reducible refine gate_callee (f := 102) rfl ?_);refine goesL_ (some 19) rfl rfl Try.func102 (by kernel_rfl) rfl #[.int .i64 x0_5, .int .i64 x1_5] rfl (by (try simp only [List.map_toArray, List.map_cons, List.map_nil]);first|done|rfl|(simp only [List.length_drop, List.length_take];rfl)) ?_;(with_reducible refine (spec_l4Gcd.calls kj5 x0_5 x1_5 t304 _ A9.out).mono ?_);rintro e w' ⟨rfl, ⟨nd, rfl⟩⟩;refine ⟨_, rfl, ?_⟩;(try (rw [drewN_self wc];generalize hq_ : World.drewN wc _ = wc;have n0_ : Aside0 (wc.heap[gb303]? = some (.cells #[.int .i64 0, .int .i64 0] 26 (0, 0))) := ⟨by rw [← hq_];exact (by (with_reducible repeat (first|refine blk_drewN ?_ _|refine blk_drew ?_|refine blk_alloc ?_ _));exact BK303.out)⟩;have n1_ : Aside0 (Below w.heap.size w wc) := ⟨by rw [← hq_];exact (by repeat (first|(with_reducible first|exact HB.out|apply below_alloc|apply pw_below_drewN|apply below_drew1|refine below_set ?_ GE303.out)|exact HB.out))⟩;clear BK303 HB hq_;have BK303 := n0_;have HB := n1_;clear n0_ n1_))))
      have n0_ := Aside0.mk (blk_drew BK303.out)
      have n1_ := Aside0.mk (below_drew1 HB.out)
      clear BK303
      clear HB
      have BK303 := n0_
      have HB := n1_
      clear n0_ n1_
      refine start_ (n := 9) (S := fun w' => True) (ds := []) #[false, false, false, false, false, false, false, false, false] (by kernel_rfl) rfl rfl trivial (fun hHeld => ?_);refine with_tabW spec_l4Make.tab7 spec_l4Make.bits7 (fun HT_ HW_ => ?_)
      generalize wc.drew = w13 at BK303 HB hHeld ⊢
      refine pure_ (i := 0) (N := some 20) (v := ?_) (a' := ?_) #[true, false, false, false, false, false, false, false, false] rfl rfl (any_of HT_.out (by kernel_rfl)) (fun _ _ _ h => h) (Or.inl ⟨by rfl, ?_⟩) ?_ ?_
      rotate_left
      ·intro w'
       go_simp
       with_reducible rfl
      rotate_left
      ·simp only [Act.put, List.setIfInBounds_toArray, List.set_cons_zero, List.set_cons_succ, i64_w, i32_w]
       rfl
      refine pure_ (i := 1) (N := some 21) (v := ?_) (a' := ?_) #[true, true, false, false, false, false, false, false, false] rfl rfl (any_of HT_.out (by kernel_rfl)) (fun _ _ _ h => h) (Or.inl ⟨by rfl, ?_⟩) ?_ ?_
      rotate_left
      ·intro w'
       go_simp
       with_reducible rfl
      rotate_left
      ·simp only [Act.put, List.setIfInBounds_toArray, List.set_cons_zero, List.set_cons_succ, i64_w, i32_w]
       rfl
      refine pure_ (i := 2) (N := some 22) (v := ?_) (a' := ?_) #[true, true, true, false, false, false, false, false, false] rfl rfl (any_of HT_.out (by kernel_rfl)) (fun _ _ _ h => h) (Or.inl ⟨by rfl, ?_⟩) ?_ ?_
      rotate_left
      ·intro w'
       go_simp
       with_reducible rfl
      rotate_left
      ·simp only [Act.put, List.setIfInBounds_toArray, List.set_cons_zero, List.set_cons_succ, i64_w, i32_w]
       rfl
      refine pure_ (i := 3) (N := some 23) (v := ?_) (a' := ?_) #[true, true, true, true, false, false, false, false, false] rfl rfl (any_of HT_.out (by kernel_rfl)) (fun _ _ _ h => h) (Or.inl ⟨by rfl, ?_⟩) ?_ ?_
      rotate_left
      ·intro w'
       go_simp
       with_reducible rfl
      rotate_left
      ·simp only [Act.put, List.setIfInBounds_toArray, List.set_cons_zero, List.set_cons_succ, i64_w, i32_w]
       rfl
      refine pure_ (i := 4) (N := some 24) (v := ?_) (a' := ?_) #[true, true, true, true, true, false, false, false, false] rfl rfl (any_of HT_.out (by kernel_rfl)) (fun _ _ _ h => h) (Or.inl ⟨by rfl, ?_⟩) ?_ ?_
      rotate_left
      ·intro w'
       go_simp
       with_reducible rfl
      rotate_left
      ·simp only [Act.put, List.setIfInBounds_toArray, List.set_cons_zero, List.set_cons_succ, i64_w, i32_w]
       rfl
      refine pure_ (i := 5) (N := some 25) (v := ?_) (a' := ?_) #[true, true, true, true, true, true, false, false, false] rfl rfl (any_of HT_.out (by kernel_rfl)) (fun _ _ _ h => h) (Or.inl ⟨by rfl, ?_⟩) ?_ ?_
      rotate_left
      ·intro w'
       go_simp
       with_reducible rfl
      rotate_left
      ·simp only [Act.put, List.setIfInBounds_toArray, List.set_cons_zero, List.set_cons_succ, i64_w, i32_w]
       rfl
      refine pure_ (i := 6) (N := some 26) (v := ?_) (a' := ?_) #[true, true, true, true, true, true, true, false, false] rfl rfl (any_of HT_.out (by kernel_rfl)) (fun _ _ _ h => h) (Or.inl ⟨by rfl, ?_⟩) ?_ ?_
      rotate_left
      ·intro w'
       go_simp
       with_reducible rfl
      rotate_left
      ·simp only [Act.put, List.setIfInBounds_toArray, List.set_cons_zero, List.set_cons_succ, i64_w, i32_w]
       rfl
      refine one_ (i := 7) (N := some 7) #[true, true, true, true, true, true, true, true, false] rfl rfl (one_of HT_.out (by kernel_rfl)) (by decide) (fun K hK => ?_)
      refine box_step ?hg (N := 7) ?hd (cs := #[.int .i64 0, .int .i64 0]) (t := 26) ?hr ?_;(case hd => rfl);(case hg => rfl);(case hr => first|(go_simp;done)|(go_simp;rfl))
      intro gb305 hg w14 hbox hb
      have n0_ := Aside0.mk (blk_below (g := gb303) (o := .cells #[.int .i64 0, .int .i64 0] 26 (0, 0)) (by (with_reducible repeat (first|refine blk_drewN ?_ _|refine blk_drew ?_|refine blk_alloc ?_ _));exact BK303.out) hb)
      have n1_ := Aside0.mk (below_step (by repeat (first|(with_reducible first|exact HB.out|apply below_alloc|apply pw_below_drewN|apply below_drew1|refine below_set ?_ GE303.out)|exact HB.out)) hb)
      have n2_ := Aside0.mk (hbox)
      have n3_ := Aside0.mk ((by rw [hg];exact (below_size (by repeat (first|(with_reducible first|exact HB.out|apply below_alloc|apply pw_below_drewN|apply below_drew1|refine below_set ?_ GE303.out)|exact HB.out))) : w.heap.size ≤ gb305))
      have n4_ := Aside0.mk ((by rw [hg];exact (below_size (by repeat (first|(with_reducible first|exact HB.out|apply below_alloc|apply pw_below_drewN|apply below_drew1|refine below_set ?_ GE303.out)|exact HB.out))) : w.heap.size ≤ gb305))
      have n5_ := Aside0.mk ((by rw [hg];exact Nat.ne_of_lt (blk_lt (g := gb303) (o := .cells #[.int .i64 0, .int .i64 0] 26 (0, 0)) (by (with_reducible repeat (first|refine blk_drewN ?_ _|refine blk_drew ?_|refine blk_alloc ?_ _));exact BK303.out)) : gb303 ≠ gb305))
      have n6_ := Aside0.mk ((by rw [hg];exact Nat.ne_of_gt (blk_lt (g := gb303) (o := .cells #[.int .i64 0, .int .i64 0] 26 (0, 0)) (by (with_reducible repeat (first|refine blk_drewN ?_ _|refine blk_drew ?_|refine blk_alloc ?_ _));exact BK303.out)) : gb305 ≠ gb303))
      clear BK303
      clear HB
      have BK303 := n0_
      have HB := n1_
      have BK305 := n2_
      have GW305 := n3_
      have GE305 := n4_
      have NB303_305 := n5_
      have NB305_303 := n6_
      clear n0_ n1_ n2_ n3_ n4_ n5_ n6_
      clear hb hbox hg
      refine hK.out _ _ trivial (fun hHeld => ?_)
      clear hK K
      refine norm_ (a' := ?_) ?_ ?_
      rotate_left
      ·show Act.put _ (some 7) _ = _
       simp only [Act.put, List.setIfInBounds_toArray, List.set_cons_zero, List.set_cons_succ, i64_w, i32_w]
       rfl
      refine one_ (i := 8) (N := none) #[true, true, true, true, true, true, true, true, true] rfl rfl (one_of HT_.out (by kernel_rfl)) (by decide) (fun K hK => ?_)
      have hs15 : w14.cell? ⟨gb305, 0, none⟩ = some (.int .i64 0) := (blk_cell BK305.out 0).trans rfl
      have hfs15 := blk_frozen BK305.out 0
      have hns15_0 := NB303_305.out
      have hms15_0 := NB305_303.out
      have hs16 : w14.cell? ⟨gb305, 1, none⟩ = some (.int .i64 0) := (blk_cell BK305.out 1).trans rfl
      have hfs16 := blk_frozen BK305.out 1
      have hns16_0 := NB303_305.out
      have hms16_0 := NB305_303.out
      refine skip_ (w1 := ?_) (by rfl) rfl ?_ ?_
      rotate_left
      ·go_simp
       rfl
      refine hK.out _ _ trivial (fun hHeld => ?_)
      clear hK K
      refine done_ (done_of HT_.out (by kernel_rfl)) ?_
      have hnb17 := NB305_303.out
      have hnc17 := NB303_305.out
      have hcz18_0 : w14.cell? ⟨gb305, 0, none⟩ = some (.int .i64 0) := (blk_cell BK305.out 0).trans rfl
      have hcz18_1 : w14.cell? ⟨gb305, 1, none⟩ = some (.int .i64 0) := (blk_cell BK305.out 1).trans rfl
      have hfz18_0 := blk_frozen BK305.out 0
      have hfz18_1 := blk_frozen BK305.out 1
      try go_wp2_with (first|((with_reducible refine gate_callee (f := 85) rfl ?_);refine goesL_ (some 28) rfl rfl Try.func85 (by kernel_rfl) rfl #[.agg #[.int .i64 (wrap64 (Int.tdiv x0_5 t304)), .int .i64 (wrap64 (Int.tdiv x1_5 t304))]] rfl (by (try simp only [List.map_toArray, List.map_cons, List.map_nil]);first|done|rfl|(simp only [List.length_drop, List.length_take];rfl)) ?_;(with_reducible refine (spec_IsRatio.calls kj5 (wrap64 (Int.tdiv x0_5 t304)) (wrap64 (Int.tdiv x1_5 t304)) true _ A11.out).mono ?_);rintro e w19 ⟨rfl, hb⟩;refine ⟨_, rfl, ?_⟩;have n0_ := Aside0.mk (blk_below (g := gb303) (o := .cells #[.int .i64 0, .int .i64 0] 26 (0, 0)) (by (with_reducible repeat (first|refine blk_drewN ?_ _|refine blk_drew ?_|refine blk_alloc ?_ _));refine blk_far ?_ NB303_305.out _;(with_reducible repeat (first|refine blk_drewN ?_ _|refine blk_drew ?_|refine blk_alloc ?_ _));refine blk_far ?_ NB303_305.out _;(with_reducible repeat (first|refine blk_drewN ?_ _|refine blk_drew ?_|refine blk_alloc ?_ _));exact BK303.out) hb);have n1_ := Aside0.mk (blk_below (g := gb305) (o := .cells #[.int .i64 (wrap64 (Int.tdiv x0_5 t304)), .int .i64 (wrap64 (Int.tdiv x1_5 t304))] 26 (0, 0)) (by (with_reducible repeat (first|refine blk_drewN ?_ _|refine blk_drew ?_|refine blk_alloc ?_ _));refine blk_put (cs := #[.int .i64 (wrap64 (Int.tdiv x0_5 t304)), .int .i64 0]) ?_ 1 _ rfl;(with_reducible repeat (first|refine blk_drewN ?_ _|refine blk_drew ?_|refine blk_alloc ?_ _));refine blk_put (cs := #[.int .i64 0, .int .i64 0]) ?_ 0 _ rfl;(with_reducible repeat (first|refine blk_drewN ?_ _|refine blk_drew ?_|refine blk_alloc ?_ _));exact BK305.out) hb);have n2_ := Aside0.mk (below_step (by repeat (first|(with_reducible first|exact HB.out|apply below_alloc|apply pw_below_drewN|apply below_drew1|refine below_set ?_ GE303.out|refine below_set ?_ GE305.out)|exact HB.out)) hb);clear BK303;clear BK305;clear HB;have BK303 := n0_;have BK305 := n1_;have HB := n2_;clear n0_ n1_ n2_;(try clear hb);(try clear hb2);(try clear hk);(try clear hi);have hcz20_0 : w19.cell? ⟨gb305, 0, none⟩ = some (.int .i64 (wrap64 (Int.tdiv x0_5 t304))) := (blk_cell BK305.out 0).trans rfl;have hcz20_1 : w19.cell? ⟨gb305, 1, none⟩ = some (.int .i64 (wrap64 (Int.tdiv x1_5 t304))) := (blk_cell BK305.out 1).trans rfl;have hfz20_0 := blk_frozen BK305.out 0;have hfz20_1 := blk_frozen BK305.out 1;have hcz21_0 : w19.cell? ⟨gb303, 0, none⟩ = some (.int .i64 0) := (blk_cell BK303.out 0).trans rfl;have hcz21_1 : w19.cell? ⟨gb303, 1, none⟩ = some (.int .i64 0) := (blk_cell BK303.out 1).trans rfl;have hfz21_0 := blk_frozen BK303.out 0;have hfz21_1 := blk_frozen BK303.out 1))
      refine bodyPost_ret (results_ct rfl _ _ gb303 26 #[.int .i64 (wrap64 (Int.tdiv x0_5 t304)), .int .i64 (wrap64 (Int.tdiv x1_5 t304))] (0, 0) _ rfl (by (with_reducible repeat (first|refine blk_drewN ?_ _|refine blk_drew ?_|refine blk_alloc ?_ _));refine blk_put (cs := #[.int .i64 (wrap64 (Int.tdiv x0_5 t304)), .int .i64 0]) ?_ 1 _ rfl;(with_reducible repeat (first|refine blk_drewN ?_ _|refine blk_drew ?_|refine blk_alloc ?_ _));refine blk_put (cs := #[.int .i64 0, .int .i64 0]) ?_ 0 _ rfl;(with_reducible repeat (first|refine blk_drewN ?_ _|refine blk_drew ?_|refine blk_alloc ?_ _));exact BK303.out) Try.underlying26 rfl (by kernel_rfl)) rfl ?_
      exact ⟨by first|rfl|(simp [errW_none, errW_some] <;> rfl)|(simp [*, errW_none, errW_some] <;> rfl), by repeat (first|(with_reducible first|exact HB.out|apply below_alloc|apply pw_below_drewN|apply below_drew1|refine below_set ?_ GE303.out|refine below_set ?_ GE305.out)|exact HB.out)⟩
     ·replace c12 := Bool.eq_false_iff.mpr c12
      subst c12
      have H1 : (some (0, 0, false)) = some (r1, r2, r3) := by rw [if_neg (show ¬ (false = true) by decide)] at H;exact H
      clear H
      have H := H1
      clear H1
      simp only [Option.some.injEq, Prod.mk.injEq] at H
      obtain ⟨rfl, rfl, rfl⟩ := H
      try go_wp2_with (first|((with_reducible refine gate_callee (f := 102) rfl ?_);refine goesL_ (some 19) rfl rfl Try.func102 (by kernel_rfl) rfl #[.int .i64 x0_5, .int .i64 x1_5] rfl (by (try simp only [List.map_toArray, List.map_cons, List.map_nil]);first|done|rfl|(simp only [List.length_drop, List.length_take];rfl)) ?_;(with_reducible refine (spec_l4Gcd.calls kj5 x0_5 x1_5 t304 _ A9.out).mono ?_);rintro e w' ⟨rfl, ⟨nd, rfl⟩⟩;refine ⟨_, rfl, ?_⟩;(try (rw [drewN_self wc];generalize hq_ : World.drewN wc _ = wc;have n0_ : Aside0 (wc.heap[gb303]? = some (.cells #[.int .i64 0, .int .i64 0] 26 (0, 0))) := ⟨by rw [← hq_];exact (by (with_reducible repeat (first|refine blk_drewN ?_ _|refine blk_drew ?_|refine blk_alloc ?_ _));exact BK303.out)⟩;have n1_ : Aside0 (Below w.heap.size w wc) := ⟨by rw [← hq_];exact (by repeat (first|(with_reducible first|exact HB.out|apply below_alloc|apply pw_below_drewN|apply below_drew1|refine below_set ?_ GE303.out)|exact HB.out))⟩;clear BK303 HB hq_;have BK303 := n0_;have HB := n1_;clear n0_ n1_))))
      have n0_ := Aside0.mk (blk_drew BK303.out)
      have n1_ := Aside0.mk (below_drew1 HB.out)
      clear BK303
      clear HB
      have BK303 := n0_
      have HB := n1_
      clear n0_ n1_
      refine start_ (n := 9) (S := fun w' => True) (ds := []) #[false, false, false, false, false, false, false, false, false] (by kernel_rfl) rfl rfl trivial (fun hHeld => ?_);refine with_tabW spec_l4Make.tab7 spec_l4Make.bits7 (fun HT_ HW_ => ?_)
      generalize wc.drew = w22 at BK303 HB hHeld ⊢
      refine pure_ (i := 0) (N := some 20) (v := ?_) (a' := ?_) #[true, false, false, false, false, false, false, false, false] rfl rfl (any_of HT_.out (by kernel_rfl)) (fun _ _ _ h => h) (Or.inl ⟨by rfl, ?_⟩) ?_ ?_
      rotate_left
      ·intro w'
       go_simp
       with_reducible rfl
      rotate_left
      ·simp only [Act.put, List.setIfInBounds_toArray, List.set_cons_zero, List.set_cons_succ, i64_w, i32_w]
       rfl
      refine pure_ (i := 1) (N := some 21) (v := ?_) (a' := ?_) #[true, true, false, false, false, false, false, false, false] rfl rfl (any_of HT_.out (by kernel_rfl)) (fun _ _ _ h => h) (Or.inl ⟨by rfl, ?_⟩) ?_ ?_
      rotate_left
      ·intro w'
       go_simp
       with_reducible rfl
      rotate_left
      ·simp only [Act.put, List.setIfInBounds_toArray, List.set_cons_zero, List.set_cons_succ, i64_w, i32_w]
       rfl
      refine pure_ (i := 2) (N := some 22) (v := ?_) (a' := ?_) #[true, true, true, false, false, false, false, false, false] rfl rfl (any_of HT_.out (by kernel_rfl)) (fun _ _ _ h => h) (Or.inl ⟨by rfl, ?_⟩) ?_ ?_
      rotate_left
      ·intro w'
       go_simp
       with_reducible rfl
      rotate_left
      ·simp only [Act.put, List.setIfInBounds_toArray, List.set_cons_zero, List.set_cons_succ, i64_w, i32_w]
       rfl
      refine pure_ (i := 3) (N := some 23) (v := ?_) (a' := ?_) #[true, true, true, true, false, false, false, false, false] rfl rfl (any_of HT_.out (by kernel_rfl)) (fun _ _ _ h => h) (Or.inl ⟨by rfl, ?_⟩) ?_ ?_
      rotate_left
      ·intro w'
       go_simp
       with_reducible rfl
      rotate_left
      ·simp only [Act.put, List.setIfInBounds_toArray, List.set_cons_zero, List.set_cons_succ, i64_w, i32_w]
       rfl
      refine pure_ (i := 4) (N := some 24) (v := ?_) (a' := ?_) #[true, true, true, true, true, false, false, false, false] rfl rfl (any_of HT_.out (by kernel_rfl)) (fun _ _ _ h => h) (Or.inl ⟨by rfl, ?_⟩) ?_ ?_
      rotate_left
      ·intro w'
       go_simp
       with_reducible rfl
      rotate_left
      ·simp only [Act.put, List.setIfInBounds_toArray, List.set_cons_zero, List.set_cons_succ, i64_w, i32_w]
       rfl
      refine pure_ (i := 5) (N := some 25) (v := ?_) (a' := ?_) #[true, true, true, true, true, true, false, false, false] rfl rfl (any_of HT_.out (by kernel_rfl)) (fun _ _ _ h => h) (Or.inl ⟨by rfl, ?_⟩) ?_ ?_
      rotate_left
      ·intro w'
       go_simp
       with_reducible rfl
      rotate_left
      ·simp only [Act.put, List.setIfInBounds_toArray, List.set_cons_zero, List.set_cons_succ, i64_w, i32_w]
       rfl
      refine pure_ (i := 6) (N := some 26) (v := ?_) (a' := ?_) #[true, true, true, true, true, true, true, false, false] rfl rfl (any_of HT_.out (by kernel_rfl)) (fun _ _ _ h => h) (Or.inl ⟨by rfl, ?_⟩) ?_ ?_
      rotate_left
      ·intro w'
       go_simp
       with_reducible rfl
      rotate_left
      ·simp only [Act.put, List.setIfInBounds_toArray, List.set_cons_zero, List.set_cons_succ, i64_w, i32_w]
       rfl
      refine one_ (i := 7) (N := some 7) #[true, true, true, true, true, true, true, true, false] rfl rfl (one_of HT_.out (by kernel_rfl)) (by decide) (fun K hK => ?_)
      refine box_step ?hg (N := 7) ?hd (cs := #[.int .i64 0, .int .i64 0]) (t := 26) ?hr ?_;(case hd => rfl);(case hg => rfl);(case hr => first|(go_simp;done)|(go_simp;rfl))
      intro gb305 hg w23 hbox hb
      have n0_ := Aside0.mk (blk_below (g := gb303) (o := .cells #[.int .i64 0, .int .i64 0] 26 (0, 0)) (by (with_reducible repeat (first|refine blk_drewN ?_ _|refine blk_drew ?_|refine blk_alloc ?_ _));exact BK303.out) hb)
      have n1_ := Aside0.mk (below_step (by repeat (first|(with_reducible first|exact HB.out|apply below_alloc|apply pw_below_drewN|apply below_drew1|refine below_set ?_ GE303.out)|exact HB.out)) hb)
      have n2_ := Aside0.mk (hbox)
      have n3_ := Aside0.mk ((by rw [hg];exact (below_size (by repeat (first|(with_reducible first|exact HB.out|apply below_alloc|apply pw_below_drewN|apply below_drew1|refine below_set ?_ GE303.out)|exact HB.out))) : w.heap.size ≤ gb305))
      have n4_ := Aside0.mk ((by rw [hg];exact (below_size (by repeat (first|(with_reducible first|exact HB.out|apply below_alloc|apply pw_below_drewN|apply below_drew1|refine below_set ?_ GE303.out)|exact HB.out))) : w.heap.size ≤ gb305))
      have n5_ := Aside0.mk ((by rw [hg];exact Nat.ne_of_lt (blk_lt (g := gb303) (o := .cells #[.int .i64 0, .int .i64 0] 26 (0, 0)) (by (with_reducible repeat (first|refine blk_drewN ?_ _|refine blk_drew ?_|refine blk_alloc ?_ _));exact BK303.out)) : gb303 ≠ gb305))
      have n6_ := Aside0.mk ((by rw [hg];exact Nat.ne_of_gt (blk_lt (g := gb303) (o := .cells #[.int .i64 0, .int .i64 0] 26 (0, 0)) (by (with_reducible repeat (first|refine blk_drewN ?_ _|refine blk_drew ?_|refine blk_alloc ?_ _));exact BK303.out)) : gb305 ≠ gb303))
      clear BK303
      clear HB
      have BK303 := n0_
      have HB := n1_
      have BK305 := n2_
      have GW305 := n3_
      have GE305 := n4_
      have NB303_305 := n5_
      have NB305_303 := n6_
      clear n0_ n1_ n2_ n3_ n4_ n5_ n6_
      clear hb hbox hg
      refine hK.out _ _ trivial (fun hHeld => ?_)
      clear hK K
      refine norm_ (a' := ?_) ?_ ?_
      rotate_left
      ·show Act.put _ (some 7) _ = _
       simp only [Act.put, List.setIfInBounds_toArray, List.set_cons_zero, List.set_cons_succ, i64_w, i32_w]
       rfl
      refine one_ (i := 8) (N := none) #[true, true, true, true, true, true, true, true, true] rfl rfl (one_of HT_.out (by kernel_rfl)) (by decide) (fun K hK => ?_)
      have hs24 : w23.cell? ⟨gb305, 0, none⟩ = some (.int .i64 0) := (blk_cell BK305.out 0).trans rfl
      have hfs24 := blk_frozen BK305.out 0
      have hns24_0 := NB303_305.out
      have hms24_0 := NB305_303.out
      have hs25 : w23.cell? ⟨gb305, 1, none⟩ = some (.int .i64 0) := (blk_cell BK305.out 1).trans rfl
      have hfs25 := blk_frozen BK305.out 1
      have hns25_0 := NB303_305.out
      have hms25_0 := NB305_303.out
      refine skip_ (w1 := ?_) (by rfl) rfl ?_ ?_
      rotate_left
      ·go_simp
       rfl
      refine hK.out _ _ trivial (fun hHeld => ?_)
      clear hK K
      refine done_ (done_of HT_.out (by kernel_rfl)) ?_
      have hnb26 := NB305_303.out
      have hnc26 := NB303_305.out
      have hcz27_0 : w23.cell? ⟨gb305, 0, none⟩ = some (.int .i64 0) := (blk_cell BK305.out 0).trans rfl
      have hcz27_1 : w23.cell? ⟨gb305, 1, none⟩ = some (.int .i64 0) := (blk_cell BK305.out 1).trans rfl
      have hfz27_0 := blk_frozen BK305.out 0
      have hfz27_1 := blk_frozen BK305.out 1
      try go_wp2_with (first|((with_reducible refine gate_callee (f := 85) rfl ?_);refine goesL_ (some 28) rfl rfl Try.func85 (by kernel_rfl) rfl #[.agg #[.int .i64 (wrap64 (Int.tdiv x0_5 t304)), .int .i64 (wrap64 (Int.tdiv x1_5 t304))]] rfl (by (try simp only [List.map_toArray, List.map_cons, List.map_nil]);first|done|rfl|(simp only [List.length_drop, List.length_take];rfl)) ?_;(with_reducible refine (spec_IsRatio.calls kj5 (wrap64 (Int.tdiv x0_5 t304)) (wrap64 (Int.tdiv x1_5 t304)) false _ A11.out).mono ?_);rintro e w28 ⟨rfl, hb⟩;refine ⟨_, rfl, ?_⟩;have n0_ := Aside0.mk (blk_below (g := gb303) (o := .cells #[.int .i64 0, .int .i64 0] 26 (0, 0)) (by (with_reducible repeat (first|refine blk_drewN ?_ _|refine blk_drew ?_|refine blk_alloc ?_ _));refine blk_far ?_ NB303_305.out _;(with_reducible repeat (first|refine blk_drewN ?_ _|refine blk_drew ?_|refine blk_alloc ?_ _));refine blk_far ?_ NB303_305.out _;(with_reducible repeat (first|refine blk_drewN ?_ _|refine blk_drew ?_|refine blk_alloc ?_ _));exact BK303.out) hb);have n1_ := Aside0.mk (blk_below (g := gb305) (o := .cells #[.int .i64 (wrap64 (Int.tdiv x0_5 t304)), .int .i64 (wrap64 (Int.tdiv x1_5 t304))] 26 (0, 0)) (by (with_reducible repeat (first|refine blk_drewN ?_ _|refine blk_drew ?_|refine blk_alloc ?_ _));refine blk_put (cs := #[.int .i64 (wrap64 (Int.tdiv x0_5 t304)), .int .i64 0]) ?_ 1 _ rfl;(with_reducible repeat (first|refine blk_drewN ?_ _|refine blk_drew ?_|refine blk_alloc ?_ _));refine blk_put (cs := #[.int .i64 0, .int .i64 0]) ?_ 0 _ rfl;(with_reducible repeat (first|refine blk_drewN ?_ _|refine blk_drew ?_|refine blk_alloc ?_ _));exact BK305.out) hb);have n2_ := Aside0.mk (below_step (by repeat (first|(with_reducible first|exact HB.out|apply below_alloc|apply pw_below_drewN|apply below_drew1|refine below_set ?_ GE303.out|refine below_set ?_ GE305.out)|exact HB.out)) hb);clear BK303;clear BK305;clear HB;have BK303 := n0_;have BK305 := n1_;have HB := n2_;clear n0_ n1_ n2_;(try clear hb);(try clear hb2);(try clear hk);(try clear hi);have hcz29_0 : w28.cell? ⟨gb303, 0, none⟩ = some (.int .i64 0) := (blk_cell BK303.out 0).trans rfl;have hcz29_1 : w28.cell? ⟨gb303, 1, none⟩ = some (.int .i64 0) := (blk_cell BK303.out 1).trans rfl;have hfz29_0 := blk_frozen BK303.out 0;have hfz29_1 := blk_frozen BK303.out 1))
      refine bodyPost_ret (results_ct rfl _ _ gb303 26 #[.int .i64 0, .int .i64 0] (0, 0) _ rfl (by (with_reducible repeat (first|refine blk_drewN ?_ _|refine blk_drew ?_|refine blk_alloc ?_ _));refine blk_put (cs := #[.int .i64 0, .int .i64 0]) ?_ 1 _ rfl;(with_reducible repeat (first|refine blk_drewN ?_ _|refine blk_drew ?_|refine blk_alloc ?_ _));refine blk_put (cs := #[.int .i64 0, .int .i64 0]) ?_ 0 _ rfl;(with_reducible repeat (first|refine blk_drewN ?_ _|refine blk_drew ?_|refine blk_alloc ?_ _));exact BK303.out) Try.underlying26 rfl (by kernel_rfl)) rfl ?_
      exact ⟨by first|rfl|(simp [errW_none, errW_some] <;> rfl)|(simp [*, errW_none, errW_some] <;> rfl), by repeat (first|(with_reducible first|exact HB.out|apply below_alloc|apply pw_below_drewN|apply below_drew1|refine below_set ?_ GE303.out|refine below_set ?_ GE305.out)|exact HB.out)⟩
end Go.Proofs.Ytojkepidkmkmpaa.PFnExactSolutionOf
end
