/-
  Goes on where the text before it ends.
  Conditions: none beside the given statement's own.
-/
import Derived.Test.YtojkepidkmkmpaaPSOLd
set_option linter.unusedVariables false
set_option linter.unusedSimpArgs false
section
namespace Go.Proofs.Ytojkepidkmkmpaa.PFnExactSolutionOf
open Go.RowKit Go.Proofs.YtojkepidkmkmpaaW.PrintWords Go.Proofs.YtojkepidkmkmpaaW.PrintLast Go.Proofs.YtojkepidkmkmpaaW.PrintMore
attribute [local go_sem] max2_int min2_int max_two min_two max_three min_three max_four min_four
set_option linter.unusedVariables false
set_option linter.unusedSimpArgs false
mutual
def spec_SolutionOf.l0 : Nat → List (List Int) → List Int → Int → List (S26) → Int → Option ((List (S26)) × Bool)
 | 0, _, _, _, _, _ => none
 | k + 1, x0, x1, x2, x8, x9 => if x9 < x2 then (if x8.length < 8796093022208 then (spec_SolutionOf.l0 k x0 x1 x2 (x8 ++ [(⟨0, 1⟩ : S26)]) (wrap64 (x9 + 1))) else (none)) else ((spec_l6Rows.f k x0 x1 x2).bind fun t317 => (spec_SolutionOf.l1 k x2 x8 t317 0))
def spec_SolutionOf.l1 : Nat → Int → List (S26) → List (List Int) → Int → Option ((List (S26)) × Bool)
 | 0, _, _, _, _ => none
 | k + 1, x2, x8, x10, x11 => if x11 < (x10.length : Int) then (if 0 ≤ x11 then ((spec_l5Lead.f k (rd_L1 x10 x11)).bind fun t321 => (if t321 ≥ x2 then (spec_SolutionOf.l1 k x2 x8 x10 (wrap64 (x11 + 1))) else (if 0 ≤ x2 then (if x2 < ((rd_L1 x10 x11).length : Int) then (if 0 ≤ t321 then (if t321 < ((rd_L1 x10 x11).length : Int) then ((spec_l4Make.f k (rd (rd_L1 x10 x11) x2) (rd (rd_L1 x10 x11) t321)).bind fun bt326 => (if bt326.2.2 = true then (if t321 < (x8.length : Int) then (spec_SolutionOf.l1 k x2 (x8.set (t321 : Int).toNat (⟨bt326.1, bt326.2.1⟩ : S26)) x10 (wrap64 (x11 + 1))) else (none)) else (some ((([] : List (S26))), false)))) else (none)) else (none)) else (none)) else (none)))) else (none)) else (some (x8, true))
end
def spec_SolutionOf.f (k : Nat) (l0 : List (List Int)) (l1 : List Int) (a2 : Int) : Option ((List (S26)) × Bool) := (spec_IsSolvable.f k l0 l1 a2).bind fun t307 => (if t307 = true then (spec_SolutionOf.l0 k l0 l1 a2 (([] : List (S26))) 0) else (some ((([] : List (S26))), false)))
theorem spec_SolutionOf.mono_l : ∀ k, (∀ y0 y1 y2 y3 y4, LeO (spec_SolutionOf.l0 k y0 y1 y2 y3 y4) (spec_SolutionOf.l0 (k + 1) y0 y1 y2 y3 y4)) ∧ (∀ y0 y1 y2 y3, LeO (spec_SolutionOf.l1 k y0 y1 y2 y3) (spec_SolutionOf.l1 (k + 1) y0 y1 y2 y3))
|0 => ⟨fun _ _ _ _ _ r h => by simp [spec_SolutionOf.l0] at h, fun _ _ _ _ r h => by simp [spec_SolutionOf.l1] at h⟩
|k + 1 => by
  obtain ⟨ih0, ih1⟩ := spec_SolutionOf.mono_l k
  refine ⟨?_, ?_⟩
  ·intro y0 y1 y2 y3 y4
   unfold spec_SolutionOf.l0
   repeat' first
  |(with_reducible exact ih0 _ _ _ _ _)
  |(with_reducible exact ih1 _ _ _ _)
  |(with_reducible exact spec_IsSolvable.mono _ _ _ _)
  |(with_reducible exact spec_l4Make.mono _ _ _)
  |(with_reducible exact spec_l5Lead.mono _ _)
  |(with_reducible exact spec_l6Rows.mono _ _ _ _)
  |(with_reducible exact LeO.refl _)
  |(with_reducible exact LeO.none _)
  |(with_reducible refine LeO.ite ?_ ?_)
  |(with_reducible refine LeO.bind ?_ (fun _ => ?_))
  |exact ih0 _ _ _ _ _
  |exact ih1 _ _ _ _
  |exact spec_IsSolvable.mono _ _ _ _
  |exact spec_l4Make.mono _ _ _
  |exact spec_l5Lead.mono _ _
  |exact spec_l6Rows.mono _ _ _ _
  |exact LeO.none _
  |refine LeO.ite ?_ ?_
  |refine LeO.bind ?_ (fun _ => ?_)
  ·intro y0 y1 y2 y3
   unfold spec_SolutionOf.l1
   repeat' first
  |(with_reducible exact ih0 _ _ _ _ _)
  |(with_reducible exact ih1 _ _ _ _)
  |(with_reducible exact spec_IsSolvable.mono _ _ _ _)
  |(with_reducible exact spec_l4Make.mono _ _ _)
  |(with_reducible exact spec_l5Lead.mono _ _)
  |(with_reducible exact spec_l6Rows.mono _ _ _ _)
  |(with_reducible exact LeO.refl _)
  |(with_reducible exact LeO.none _)
  |(with_reducible refine LeO.ite ?_ ?_)
  |(with_reducible refine LeO.bind ?_ (fun _ => ?_))
  |exact ih0 _ _ _ _ _
  |exact ih1 _ _ _ _
  |exact spec_IsSolvable.mono _ _ _ _
  |exact spec_l4Make.mono _ _ _
  |exact spec_l5Lead.mono _ _
  |exact spec_l6Rows.mono _ _ _ _
  |exact LeO.none _
  |refine LeO.ite ?_ ?_
  |refine LeO.bind ?_ (fun _ => ?_)
theorem spec_SolutionOf.mono : ∀ a0 a1 a2 k, LeO (spec_SolutionOf.f k a0 a1 a2) (spec_SolutionOf.f (k + 1) a0 a1 a2) := by
 intro a0 a1 a2 k
 obtain ⟨ih0, ih1⟩ := spec_SolutionOf.mono_l k
 unfold spec_SolutionOf.f
 repeat' first
  |(with_reducible exact ih0 _ _ _ _ _)
  |(with_reducible exact ih1 _ _ _ _)
  |(with_reducible exact spec_IsSolvable.mono _ _ _ _)
  |(with_reducible exact spec_l4Make.mono _ _ _)
  |(with_reducible exact spec_l5Lead.mono _ _)
  |(with_reducible exact spec_l6Rows.mono _ _ _ _)
  |(with_reducible exact LeO.refl _)
  |(with_reducible exact LeO.none _)
  |(with_reducible refine LeO.ite ?_ ?_)
  |(with_reducible refine LeO.bind ?_ (fun _ => ?_))
  |exact ih0 _ _ _ _ _
  |exact ih1 _ _ _ _
  |exact spec_IsSolvable.mono _ _ _ _
  |exact spec_l4Make.mono _ _ _
  |exact spec_l5Lead.mono _ _
  |exact spec_l6Rows.mono _ _ _ _
  |exact LeO.none _
  |refine LeO.ite ?_ ?_
  |refine LeO.bind ?_ (fun _ => ?_)
def spec_SolutionOf.T14 : Bool × List (List Nat × List Nat) := (true, [([], []), ([], []), ([0, 1], [0, 1]), ([2], [2]), ([], []), ([3, 4], [3, 4]), ([5], [5]), ([], []), ([], []), ([7, 8], [7, 8]), ([9], [9]), ([], []), ([10, 11], [10, 11]), ([12], [12]), ([6, 13], [6, 13]), ([14], [14]), ([15], [15]), ([15], [15]), ([], []), ([18, 16, 14, 0, 1, 2, 3, 4, 5, 6, 7, 8, 9, 10, 11, 12, 13, 14, 15, 16, 18], [16, 18]), ([17, 19, 0, 1, 2, 3, 4, 5, 6, 7, 8, 9, 10, 11, 12, 13, 14, 15, 16, 17, 18, 19], [17])])
def spec_SolutionOf.B14 : List Nat := [0, 0, 3, 7, 0, 31, 63, 0, 0, 384, 896, 0, 3968, 8064, 16383, 32767, 65535, 65535, 0, 393215, 1048575]
theorem spec_SolutionOf.tab14 : rtab .any (opsOf Try.f26 14) = spec_SolutionOf.T14 := by kernel_rfl
theorem spec_SolutionOf.bits14 : waitsOk spec_SolutionOf.T14.2 spec_SolutionOf.B14 = true := by kernel_rfl
theorem vaway {t : IntKind} {e base n c g : Nat} {W : World} {ok : Nat → Prop} {ad : Addr} {xs : List Int} (h : Kd.V (Kd.int t) e W base ok (.slice (some ad) n c) xs) (hp : 0 < xs.length) (hok : ∀ k, ok k → k ≠ g) : some g ≠ (Value.slice (some ad) n c).ownBlock := by
 intro he
 have hb : ad.block = g := by
  simp only [Value.ownBlock, Option.map_some] at he
  injection he with he
  exact he.symm
 obtain ⟨hn, _, hF⟩ := Kd.V_at h
 have hC := hF { W with heap := W.heap.setIfInBounds g (.cells #[] 0 (0, 0)) } (fun k hk _ => by
  have hne := hok k hk
  show (W.heap.setIfInBounds g _)[k]? = _
  rw [Array.getElem?_setIfInBounds_ne (Ne.symm hne)])
 obtain ⟨ad', hA, hc⟩ := Kd.at_int hC 0 (by omega) (by omega)
 injection hA with hA
 subst hA
 rw [show ad.add (0 : Int).toNat = ad from by simp [Addr.add]] at hc
 simp only [World.cell?] at hc
 by_cases hlt : g < W.heap.size
 ·rw [show ad.block = g from hb, Array.getElem?_setIfInBounds_self_of_lt hlt] at hc
  revert hc
  cases ad.spot <;> simp
 ·rw [show ad.block = g from hb, Array.getElem?_eq_none (by rw [Array.size_setIfInBounds]; omega)] at hc
  cases hc
set_option maxHeartbeats 8000000 in
set_option maxRecDepth 100000 in
theorem spec_SolutionOf.calls (k : Nat) (A0 : Option Addr) (c0 : Nat) (l0 : List (List Int)) (A1 : Option Addr) (c1 : Nat) (l1 : List Int) (a2 : Int) (r1 : List (S26)) (r2 : Bool) (w : World) (hr0 : Kd.C (Kd.slice 3 (Kd.int .i64)) w A0 l0.length l0) (hc0 : l0.length ≤ c0) (hr1 : Kd.C (Kd.int .i64) w A1 l1.length l1) (hc1 : l1.length ≤ c1) (h : spec_SolutionOf.f k l0 l1 a2 = some (r1, r2)) :
  Calls Try.prog 26 #[.slice A0 l0.length c0, .slice A1 l1.length c1, .int .i64 a2] w fun e w' => ∃ v0_ : Value, e = .returned (.tuple #[v0_, .bool r2]) ∧ Kd.R k26 26 w' w.heap.size (fun _ => True) v0_ r1 ∧ Below w.heap.size w w' := by
 have hu26 := Try.underlying26
 have HR0 := Aside0.mk hr0
 have HC0 := Aside0.mk hc0
 clear hr0 hc0
 have HR1 := Aside0.mk hr1
 have HC1 := Aside0.mk hc1
 clear hr1 hc1
 have HB := Aside0.mk (Below.refl w.heap.size w)
 have H : ((spec_IsSolvable.f k l0 l1 a2).bind fun t307 => (if t307 = true then (spec_SolutionOf.l0 k l0 l1 a2 (([] : List (S26))) 0) else (some ((([] : List (S26))), false)))) = some (r1, r2) := h
 clear h
 replace H := Option.bind_eq_some_iff.mp H
 obtain ⟨t307, A40, H⟩ := H
 replace H : (if t307 = true then (spec_SolutionOf.l0 k l0 l1 a2 (([] : List (S26))) 0) else (some ((([] : List (S26))), false))) = some (r1, r2) := H
 have A4 := Aside0.mk A40
 clear A40
 by_cases c5 : t307 = true
 ·subst c5
  have H1 : (spec_SolutionOf.l0 k l0 l1 a2 (([] : List (S26))) 0) = some (r1, r2) := by rw [if_pos rfl] at H;exact H
  clear H
  have H := H1
  clear H1
  obtain ⟨y311, hy311⟩ : ∃ y_ : List (S26), y_ = (([] : List (S26))) := ⟨_, rfl⟩
  replace H : (spec_SolutionOf.l0 k l0 l1 a2 y311 0) = some (r1, r2) := by first|(rw [hy311];with_reducible exact H)|(have H2_ := (Option.bind_some _ _).symm.trans H;rw [hy311];with_reducible exact H2_)|(have H2_ := (Option.bind_some _ _).symm.trans H;with_reducible exact H2_)|with_reducible exact H|(rw [hy311];exact H)|exact H
  have Ny311 := Aside0.mk hy311
  clear hy311
  have H' := Aside0.mk H
  clear H
  go_enter Try.func26, Try.ntmps26
  go_wp2_with (first|((with_reducible refine gate_callee (f := 49) rfl ?_);refine goesL_ (some 18) rfl rfl Try.func49 (by kernel_rfl) rfl #[.slice A0 l0.length c0, .slice A1 l1.length c1, .int .i64 a2] rfl (by (try simp only [List.map_toArray, List.map_cons, List.map_nil]);first|done|rfl|(simp only [List.length_drop, List.length_take];rfl)) ?_;(with_reducible refine (spec_IsSolvable.calls k _ _ l0 _ _ l1 a2 true _ ?side1 ?side2 ?side3 ?side4 A4.out).mono ?_);(case side1 => repeat (first|exact HR0.out|(with_reducible refine Kd.C_alloc ?_ _)|(with_reducible refine Kd.C_drewN ?_ _)|(with_reducible refine Kd.C_drew ?_)));(case side2 => exact HC0.out);(case side3 => repeat (first|exact HR1.out|(with_reducible refine Kd.C_alloc ?_ _)|(with_reducible refine Kd.C_drewN ?_ _)|(with_reducible refine Kd.C_drew ?_)));(case side4 => exact HC1.out);rintro e w6 ⟨rfl, hb⟩;refine ⟨_, rfl, ?_⟩;have n0_ := Aside0.mk (below_step (by repeat first|(with_reducible first|exact HB.out|apply below_alloc|apply pw_below_drewN|apply below_drew1)|exact HB.out) hb);clear HB;have HB := n0_;clear n0_;(try clear hb);(try clear hb2);(try clear hk);(try clear hi))|((with_reducible refine gate_dst (N := 21) rfl ?_);refine Kd.R_lit k26 _ 26 ?hg (N := 21) ?hd (xs := ([] : List (S26))) (inner := []) (ok := fun _ => True) (okp := fun _ => True) ?hr ?hp (fun _ hk => hk) trivial (Below.refl _ _) (Nat.le_refl _) (by simp) ?_;(case hd => rfl);(case hg => rfl);(case hr => first|(go_simp;done)|(go_simp;rfl));(case hp => exact (Reps.none _ _));intro v312 w7 ho8 hb hg_ hnew_;clear hg_ hnew_;(first|rw [← Ny311.out] at ho8|(simp only [Int.reduceToNat] at ho8;rw [← Ny311.out] at ho8));have n0_ := Aside0.mk (Kd.R_lower ho8 (below_size (by repeat first|(with_reducible first|exact HB.out|apply below_alloc|apply pw_below_drewN|apply below_drew1)|exact HB.out)));have n1_ := Aside0.mk (below_step (by repeat first|(with_reducible first|exact HB.out|apply below_alloc|apply pw_below_drewN|apply below_drew1)|exact HB.out) hb);clear HB;have HO313 := n0_;have HB := n1_;clear n0_ n1_;clear hb ho8))
  go_loopg [8, 9] k (fun kq v8 v9 w' => ∃ (x8_1 : List (S26)) (x9_1 : Int), v9 = .int .i64 x9_1 ∧ Aside0 (spec_SolutionOf.l0 kq l0 l1 a2 x8_1 x9_1 = some (r1, r2)) ∧ Aside0 (kq ≤ k) ∧ Aside0 (Kd.R k26 26 w' w.heap.size (fun _ => True) v8 x8_1) ∧ Aside0 (Below w.heap.size w w'))
  case atStart => exact ⟨(y311), (0), (by first|rfl|(simp;done)|(simp [*];done)), H', ⟨Nat.le_refl _⟩, ⟨by (with_reducible repeat (first|apply Kd.R_alloc|apply Kd.R_drewN|apply Kd.R_drew));exact HO313.out⟩, ⟨by repeat (first|(with_reducible first|exact HB.out|apply below_alloc|apply pw_below_drewN|apply below_drew1)|exact HB.out)⟩⟩
  case round =>
   clear H'
   try clear c1
   try clear c2
   try clear p2
   try clear c4
   try clear c5
   obtain ⟨x8_1, x9_1, rfl, HA, HK1, HO_8, HB⟩ := hrel
   cases gk with
  |zero => exact absurd HA.out (by simp [spec_SolutionOf.l0])
  |succ k1 =>
    have H := HA.out
    clear HA
    simp only [spec_SolutionOf.l0] at H
    by_cases c9 : x9_1 < a2
    ·rw [if_pos c9] at H
     have c9b0 : decide (x9_1 < a2) = true := decide_eq_true c9
     clear c9
     by_cases c10 : x8_1.length < 8796093022208
     ·rw [if_pos c10] at H
      have LMc10 := Aside0.mk c10
      clear c10
      obtain ⟨y314, hy314⟩ : ∃ y_ : List (S26), y_ = (x8_1 ++ [(⟨0, 1⟩ : S26)]) := ⟨_, rfl⟩
      replace H : (spec_SolutionOf.l0 k1 l0 l1 a2 y314 (wrap64 (x9_1 + 1))) = some (r1, r2) := by first|(rw [hy314];with_reducible exact H)|(have H2_ := (Option.bind_some _ _).symm.trans H;rw [hy314];with_reducible exact H2_)|(have H2_ := (Option.bind_some _ _).symm.trans H;with_reducible exact H2_)|with_reducible exact H|(rw [hy314];exact H)|exact H
      have Ny314 := Aside0.mk hy314
      clear hy314
      have H' := Aside0.mk H
      clear H
      go_wp2_with (first|((with_reducible refine gate_builtin (b := .append) (xs := #[.tmp 27, .tmp 29]) rfl ?_);at_builtin;refine Kd.R_append k26 (w0 := w) w.heap.size rfl (.tmp 27) (.tmp 29) 39 26 (.agg #[(.int .i64 0), (.int .i64 0)]) 16 rfl Try.underlying39 info26 rfl (by decide) (by omega) u8 x8_1 (⟨0, 1⟩ : S26) [.int .i64 0, .int .i64 1] (fun _ => True) (fun _ => False) rfl rfl ?aP (fun _ hk => hk.elim) ?aF ?aO ?aB ?aS ?aL ?_;(case aP => exact k26_mkM _ _ _ (⟨0, 1⟩ : S26));(case aB => exact (by repeat first|(with_reducible first|exact HB.out|apply below_alloc|apply pw_below_drewN|apply below_drew1)|exact HB.out));(case aF => exact (fun _ _ => trivial));(case aO => exact (by (with_reducible repeat (first|apply Kd.R_alloc|apply Kd.R_drewN|apply Kd.R_drew));exact HO_8.out));(case aS => exact (below_size (by repeat first|(with_reducible first|exact HB.out|apply below_alloc|apply pw_below_drewN|apply below_drew1)|exact HB.out)));(case aL => have := LMc10.out;omega);intro v315 w11 ho hb hg hat;rw [← Ny314.out] at ho;have n0_ := Aside0.mk (hb);have n1_ := Aside0.mk (ho);clear HB;clear HO_8;have HB := n0_;have HO316 := n1_;clear n0_ n1_;clear ho hb hg hat))
      go_roundg k1
      case measure => have := HK1.out;omega
      case rel => exact ⟨(y314), (wrap64 (x9_1 + 1)), (by first|rfl|(simp;done)|(simp [*];done)), H', ⟨by have := HK1.out;omega⟩, ⟨by (with_reducible repeat (first|apply Kd.R_alloc|apply Kd.R_drewN|apply Kd.R_drew));exact HO316.out⟩, ⟨by repeat (first|(with_reducible first|exact HB.out|apply below_alloc|apply pw_below_drewN|apply below_drew1)|exact HB.out)⟩⟩
     ·rw [if_neg c10] at H
      exact absurd H (by simp)
    ·rw [if_neg c9] at H
     have c9b0 : decide (x9_1 < a2) = false := decide_eq_false c9
     clear c9
     replace H := Option.bind_eq_some_iff.mp H
     obtain ⟨t317, A120, H⟩ := H
     replace H : (spec_SolutionOf.l1 k1 a2 x8_1 t317 0) = some (r1, r2) := H
     have A12 := Aside0.mk A120
     clear A120
     have H' := Aside0.mk H
     clear H
     go_wp2_with (first|((with_reducible refine gate_callee (f := 68) rfl ?_);refine goesL_ (some 34) rfl rfl Try.func68 (by kernel_rfl) rfl #[.slice A0 l0.length c0, .slice A1 l1.length c1, .int .i64 a2] rfl (by (try simp only [List.map_toArray, List.map_cons, List.map_nil]);first|done|rfl|(simp only [List.length_drop, List.length_take];rfl)) ?_;(with_reducible refine (spec_l6Rows.calls k1 _ _ l0 _ _ l1 a2 t317 _ ?side1 ?side2 ?side3 ?side4 A12.out).mono ?_);(case side1 => repeat (first|exact (Kd.C_below HR0.out HB.out)|(with_reducible refine Kd.C_alloc ?_ _)|(with_reducible refine Kd.C_drewN ?_ _)|(with_reducible refine Kd.C_drew ?_)));(case side2 => exact HC0.out);(case side3 => repeat (first|exact (Kd.C_below HR1.out HB.out)|(with_reducible refine Kd.C_alloc ?_ _)|(with_reducible refine Kd.C_drewN ?_ _)|(with_reducible refine Kd.C_drew ?_)));(case side4 => exact HC1.out);rintro e w13 ⟨v318, rfl, ho0, hb⟩;refine ⟨_, rfl, ?_⟩;have n0_ := Aside0.mk (Kd.R_below (by (with_reducible repeat (first|apply Kd.R_alloc|apply Kd.R_drewN|apply Kd.R_drew));exact HO_8.out) hb);have n1_ := Aside0.mk (Kd.N_lower (Kd.N_mono (ok' := fun k_ => some k_ ≠ (u8 : Value).ownBlock) ho0 (fun k_ hk_ => (Kd.fresh' (Kd.R_lt (by (with_reducible repeat (first|apply Kd.R_alloc|apply Kd.R_drewN|apply Kd.R_drew));exact HO_8.out)) k_ hk_))) (below_size (by repeat first|(with_reducible first|exact HB.out|apply below_alloc|apply pw_below_drewN|apply below_drew1)|exact HB.out)));have n2_ := Aside0.mk (below_step (by repeat first|(with_reducible first|exact HB.out|apply below_alloc|apply pw_below_drewN|apply below_drew1)|exact HB.out) hb);clear HO_8;clear HB;have HO_8 := n0_;have HO319 := n1_;have HB := n2_;clear n0_ n1_ n2_;(try clear hb);(try clear hb2);(try clear hk);(try clear hi);(try clear ho0)))
     go_loopg [11] k1 (fun kq v11 w' => ∃ (x8_2 : List (S26)) (x11_2 : Int), v11 = .int .i64 x11_2 ∧ Aside0 (spec_SolutionOf.l1 kq a2 x8_2 t317 x11_2 = some (r1, r2)) ∧ Aside0 (kq ≤ k1) ∧ Aside0 (Kd.R k26 26 w' w.heap.size (fun _ => True) u8 x8_2) ∧ Aside0 (Kd.N (Kd.slice 3 (Kd.int .i64)) 23 w' w.heap.size (fun k_ => some k_ ≠ (u8 : Value).ownBlock) v318 t317) ∧ Aside0 (Below w.heap.size w w'))
     case atStart => exact ⟨(x8_1), (0), (by first|rfl|(simp;done)|(simp [*];done)), H', ⟨Nat.le_refl _⟩, ⟨by (with_reducible repeat (first|apply Kd.R_alloc|apply Kd.R_drewN|apply Kd.R_drew));exact HO_8.out⟩, ⟨by (with_reducible repeat (first|apply Kd.N_alloc|apply Kd.N_drewN|apply Kd.N_drew));exact HO319.out⟩, ⟨by repeat (first|(with_reducible first|exact HB.out|apply below_alloc|apply pw_below_drewN|apply below_drew1)|exact HB.out)⟩⟩
     case round =>
      clear H'
      try clear c1
      try clear c2
      try clear p2
      try clear c4
      try clear c5
      try clear c6
      try clear p6
      try clear c9
      try clear c9b0
      try clear c10
      try clear p2
      obtain ⟨x8_2, x11_2, rfl, HA, HK2, HO_8, HO_10, HB⟩ := hrel
      cases gk with
     |zero => exact absurd HA.out (by simp [spec_SolutionOf.l1])
     |succ k2 =>
       have H := HA.out
       clear HA
       simp only [spec_SolutionOf.l1] at H
       by_cases c14 : x11_2 < (t317.length : Int)
       ·rw [if_pos c14] at H
        have c14b0 : decide (x11_2 < (t317.length : Int)) = true := decide_eq_true c14
        clear c14
        by_cases c15 : 0 ≤ x11_2
        ·rw [if_pos c15] at H
         have c15b0 : decide (0 ≤ x11_2) = true := decide_eq_true c15
         clear c15
         replace H := Option.bind_eq_some_iff.mp H
         obtain ⟨t321, A160, H⟩ := H
         replace H : (if t321 ≥ a2 then (spec_SolutionOf.l1 k2 a2 x8_2 t317 (wrap64 (x11_2 + 1))) else (if 0 ≤ a2 then (if a2 < ((rd_L1 t317 x11_2).length : Int) then (if 0 ≤ t321 then (if t321 < ((rd_L1 t317 x11_2).length : Int) then ((spec_l4Make.f k2 (rd (rd_L1 t317 x11_2) a2) (rd (rd_L1 t317 x11_2) t321)).bind fun bt326 => (if bt326.2.2 = true then (if t321 < (x8_2.length : Int) then (spec_SolutionOf.l1 k2 a2 (x8_2.set (t321 : Int).toNat (⟨bt326.1, bt326.2.1⟩ : S26)) t317 (wrap64 (x11_2 + 1))) else (none)) else (some ((([] : List (S26))), false)))) else (none)) else (none)) else (none)) else (none))) = some (r1, r2) := H
         have A16 := Aside0.mk A160
         clear A160
         by_cases c17 : t321 ≥ a2
         ·rw [if_pos c17] at H
          have c17b0 : decide (a2 ≤ t321) = true := decide_eq_true c17
          clear c17
          have H' := Aside0.mk H
          clear H
          obtain ⟨Ao18, co18, eo18⟩ := Kd.N_slice HO_10.out
          subst eo18
          have p320 : 0 ≤ (x11_2 : Int) := of_decide_eq_true (by first|(with_reducible assumption)|assumption)
          have q320 : x11_2 < (t317.length : Int) := of_decide_eq_true (by first|(with_reducible assumption)|assumption)
          obtain ⟨ad320, A320_0, c320_0, e320, hx320_0, hl320_0, hi320_0⟩ := at_L1 (Kd.N_reads' HO_10.out).2.2 x11_2 p320 q320
          cases e320
          obtain ⟨ce320, hce320, hMe320, hcc320⟩ := Kd.N_get HO_10.out [] x11_2 p320 (by first|exact q320|exact of_decide_eq_true (by first|(with_reducible assumption)|assumption)|(have e_ := (Kd.N_reads' HO_10.out).1;omega))
          obtain ⟨ua320_0, uc320_0, rfl, ul320_0, ge320_0⟩ := Kd.FK_slice_open hMe320
          have hv320_0 := hcc320 0 _ rfl
          rw [Nat.add_zero, show ((Kd.slice 3 (Kd.int .i64))).sz = 1 from rfl, Nat.mul_one] at hv320_0
          replace hv320_0 := Option.some.inj (hv320_0.symm.trans hx320_0)
          injection hv320_0 with hva_ hvn_ hvc_
          rw [hva_] at ge320_0
          rw [hvc_] at ul320_0
          have HL320_0 := Aside0.mk (show Kd.V (Kd.int .i64) 3 _ w.heap.size _ _ (rd_L1 t317 x11_2) from Kd.V_mk ul320_0 ge320_0)
          clear hva_ hvn_ hvc_ ge320_0 ul320_0
          clear hcc320 hce320
          have HR320_0 := Aside0.mk hi320_0
          have HC320_0 := Aside0.mk hl320_0
          clear hi320_0 hl320_0
          replace p320 := eq_true p320
          replace q320 := eq_true q320
          go_wp2_with (first|((with_reducible refine gate_callee (f := 69) rfl ?_);refine goesL_ (some 45) rfl rfl Try.func69 (by kernel_rfl) rfl #[.slice A320_0 (rd_L1 t317 x11_2).length c320_0] rfl (by (try simp only [List.map_toArray, List.map_cons, List.map_nil]);first|done|rfl|(simp only [List.length_drop, List.length_take];rfl)) ?_;(with_reducible refine (spec_l5Lead.calls k2 _ _ (rd_L1 t317 x11_2) t321 _ ?side1 ?side2 A16.out).mono ?_);(case side1 => repeat (first|exact (by repeat (first|(with_reducible exact HR320_0.out)|(with_reducible refine Kd.C_alloc ?_ _)|(with_reducible refine Kd.C_drewN ?_ _)|(with_reducible refine Kd.C_drew ?_)|exact HR320_0.out))|(with_reducible refine Kd.C_alloc ?_ _)|(with_reducible refine Kd.C_drewN ?_ _)|(with_reducible refine Kd.C_drew ?_)));(case side2 => exact HC320_0.out);rintro e w' ⟨rfl, ⟨nd, rfl⟩⟩;refine ⟨_, rfl, ?_⟩))
          go_roundg k2
          case measure => have := HK1.out;have := HK2.out;omega
          case rel => exact ⟨(x8_2), (wrap64 (x11_2 + 1)), (by first|rfl|(simp;done)|(simp [*];done)), H', ⟨by have := HK1.out;have := HK2.out;omega⟩, ⟨by (with_reducible repeat (first|apply Kd.R_alloc|apply Kd.R_drewN|apply Kd.R_drew));exact HO_8.out⟩, ⟨by (with_reducible repeat (first|apply Kd.N_alloc|apply Kd.N_drewN|apply Kd.N_drew));exact HO_10.out⟩, ⟨by repeat (first|(with_reducible first|exact HB.out|apply below_alloc|apply pw_below_drewN|apply below_drew1)|exact HB.out)⟩⟩
         ·rw [if_neg c17] at H
          have c17b0 : decide (a2 ≤ t321) = false := decide_eq_false c17
          clear c17
          by_cases c19 : 0 ≤ a2
          ·rw [if_pos c19] at H
           have c19b0 : decide (0 ≤ a2) = true := decide_eq_true c19
           clear c19
           by_cases c20 : a2 < ((rd_L1 t317 x11_2).length : Int)
           ·rw [if_pos c20] at H
            have c20b0 : decide (a2 < ((rd_L1 t317 x11_2).length : Int)) = true := decide_eq_true c20
            clear c20
            by_cases c21 : 0 ≤ t321
            ·rw [if_pos c21] at H
             have c21b0 : decide (0 ≤ t321) = true := decide_eq_true c21
             clear c21
             by_cases c22 : t321 < ((rd_L1 t317 x11_2).length : Int)
             ·rw [if_pos c22] at H
              have c22b0 : decide (t321 < ((rd_L1 t317 x11_2).length : Int)) = true := decide_eq_true c22
              clear c22
              replace H := Option.bind_eq_some_iff.mp H
              obtain ⟨⟨t326, t327, t328⟩, A230, H⟩ := H
              replace H : (if t328 = true then (if t321 < (x8_2.length : Int) then (spec_SolutionOf.l1 k2 a2 (x8_2.set (t321 : Int).toNat (⟨t326, t327⟩ : S26)) t317 (wrap64 (x11_2 + 1))) else (none)) else (some ((([] : List (S26))), false))) = some (r1, r2) := H
              have A23 := Aside0.mk A230
              clear A230
              by_cases c24 : t328 = true
              ·subst c24
               have H1 : (if t321 < (x8_2.length : Int) then (spec_SolutionOf.l1 k2 a2 (x8_2.set (t321 : Int).toNat (⟨t326, t327⟩ : S26)) t317 (wrap64 (x11_2 + 1))) else (none)) = some (r1, r2) := by rw [if_pos rfl] at H;exact H
               clear H
               have H := H1
               clear H1
               by_cases c25 : t321 < (x8_2.length : Int)
               ·rw [if_pos c25] at H
                have c25b0 : decide (t321 < (x8_2.length : Int)) = true := decide_eq_true c25
                clear c25
                obtain ⟨y330, hy330⟩ : ∃ y_ : List (S26), y_ = (x8_2.set (t321 : Int).toNat (⟨t326, t327⟩ : S26)) := ⟨_, rfl⟩
                replace H : (spec_SolutionOf.l1 k2 a2 y330 t317 (wrap64 (x11_2 + 1))) = some (r1, r2) := by first|(rw [hy330];with_reducible exact H)|(have H2_ := (Option.bind_some _ _).symm.trans H;rw [hy330];with_reducible exact H2_)|(have H2_ := (Option.bind_some _ _).symm.trans H;with_reducible exact H2_)|with_reducible exact H|(rw [hy330];exact H)|exact H
                have Ny330 := Aside0.mk hy330
                clear hy330
                have H' := Aside0.mk H
                clear H
                obtain ⟨Ao27, co27, eo27⟩ := Kd.N_slice HO_10.out
                subst eo27
                have p320 : 0 ≤ (x11_2 : Int) := of_decide_eq_true (by first|(with_reducible assumption)|assumption)
                have q320 : x11_2 < (t317.length : Int) := of_decide_eq_true (by first|(with_reducible assumption)|assumption)
                obtain ⟨ad320, A320_0, c320_0, e320, hx320_0, hl320_0, hi320_0⟩ := at_L1 (Kd.N_reads' HO_10.out).2.2 x11_2 p320 q320
                cases e320
                obtain ⟨ce320, hce320, hMe320, hcc320⟩ := Kd.N_get HO_10.out [] x11_2 p320 (by first|exact q320|exact of_decide_eq_true (by first|(with_reducible assumption)|assumption)|(have e_ := (Kd.N_reads' HO_10.out).1;omega))
                obtain ⟨ua320_0, uc320_0, rfl, ul320_0, ge320_0⟩ := Kd.FK_slice_open hMe320
                have hv320_0 := hcc320 0 _ rfl
                rw [Nat.add_zero, show ((Kd.slice 3 (Kd.int .i64))).sz = 1 from rfl, Nat.mul_one] at hv320_0
                replace hv320_0 := Option.some.inj (hv320_0.symm.trans hx320_0)
                injection hv320_0 with hva_ hvn_ hvc_
                rw [hva_] at ge320_0
                rw [hvc_] at ul320_0
                have HL320_0 := Aside0.mk (show Kd.V (Kd.int .i64) 3 _ w.heap.size _ _ (rd_L1 t317 x11_2) from Kd.V_mk ul320_0 ge320_0)
                clear hva_ hvn_ hvc_ ge320_0 ul320_0
                clear hcc320 hce320
                have HR320_0 := Aside0.mk hi320_0
                have HC320_0 := Aside0.mk hl320_0
                clear hi320_0 hl320_0
                replace p320 := eq_true p320
                replace q320 := eq_true q320
                try go_wp2_with (first|((with_reducible refine gate_callee (f := 69) rfl ?_);refine goesL_ (some 45) rfl rfl Try.func69 (by kernel_rfl) rfl #[.slice A320_0 (rd_L1 t317 x11_2).length c320_0] rfl (by (try simp only [List.map_toArray, List.map_cons, List.map_nil]);first|done|rfl|(simp only [List.length_drop, List.length_take];rfl)) ?_;(with_reducible refine (spec_l5Lead.calls k2 _ _ (rd_L1 t317 x11_2) t321 _ ?side1 ?side2 A16.out).mono ?_);(case side1 => repeat (first|exact (by repeat (first|(with_reducible exact HR320_0.out)|(with_reducible refine Kd.C_alloc ?_ _)|(with_reducible refine Kd.C_drewN ?_ _)|(with_reducible refine Kd.C_drew ?_)|exact HR320_0.out))|(with_reducible refine Kd.C_alloc ?_ _)|(with_reducible refine Kd.C_drewN ?_ _)|(with_reducible refine Kd.C_drew ?_)));(case side2 => exact HC320_0.out);rintro e w' ⟨rfl, ⟨nd, rfl⟩⟩;refine ⟨_, rfl, ?_⟩;(try (rw [drewN_self wr];generalize hq_ : World.drewN wr _ = wr;have n0_ : Aside0 (Kd.V (Kd.int .i64) 3 wr w.heap.size (fun k_ => some k_ ≠ (.slice (some ad320) t317.length co27 : Value).ownBlock ∧ some k_ ≠ (u8 : Value).ownBlock) (.slice A320_0 (rd_L1 t317 x11_2).length c320_0) (rd_L1 t317 x11_2)) := ⟨by rw [← hq_];exact (by (with_reducible repeat (first|apply Kd.V_alloc|apply Kd.V_drewN|apply Kd.V_drew));exact Kd.V_mono HL320_0.out (fun _ hk => ⟨hk.2, hk.1⟩))⟩;have n1_ : Aside0 (Kd.N (Kd.slice 3 (Kd.int .i64)) 23 wr w.heap.size (fun k_ => some k_ ≠ (u8 : Value).ownBlock) (.slice (some ad320) t317.length co27) t317) := ⟨by rw [← hq_];exact (by (with_reducible repeat (first|apply Kd.N_alloc|apply Kd.N_drewN|apply Kd.N_drew));exact HO_10.out)⟩;have n2_ : Aside0 (Kd.R k26 26 wr w.heap.size (fun _ => True) u8 x8_2) := ⟨by rw [← hq_];exact (by (with_reducible repeat (first|apply Kd.R_alloc|apply Kd.R_drewN|apply Kd.R_drew));exact HO_8.out)⟩;have n3_ : Aside0 (Below w.heap.size w wr) := ⟨by rw [← hq_];exact (by repeat first|(with_reducible first|exact HB.out|apply below_alloc|apply pw_below_drewN|apply below_drew1)|exact HB.out)⟩;have n4_ : Aside0 (Kd.C (Kd.int .i64) wr A320_0 (rd_L1 t317 x11_2).length (rd_L1 t317 x11_2)) := ⟨by rw [← hq_];exact (by repeat (first|(with_reducible exact HR320_0.out)|(with_reducible refine Kd.C_alloc ?_ _)|(with_reducible refine Kd.C_drewN ?_ _)|(with_reducible refine Kd.C_drew ?_)|exact HR320_0.out))⟩;clear HL320_0 HO_10 HO_8 HB HR320_0 hq_;have HL320_0 := n0_;have HO_10 := n1_;have HO_8 := n2_;have HB := n3_;have HR320_0 := n4_;clear n0_ n1_ n2_ n3_ n4_))))
                have n0_ := Aside0.mk (Kd.R_drew HO_8.out)
                have n1_ := Aside0.mk (Kd.N_drew HO_10.out)
                have n2_ := Aside0.mk (Kd.V_drew HL320_0.out)
                have n3_ := Aside0.mk (Kd.C_drew HR320_0.out)
                have n4_ := Aside0.mk (below_drew1 HB.out)
                clear HO_8
                clear HO_10
                clear HL320_0
                clear HR320_0
                clear HB
                have HO_8 := n0_
                have HO_10 := n1_
                have HL320_0 := n2_
                have HR320_0 := n3_
                have HB := n4_
                clear n0_ n1_ n2_ n3_ n4_
                have p322 : 0 ≤ (x11_2 : Int) := of_decide_eq_true (by first|(with_reducible assumption)|assumption)
                have q322 : x11_2 < (t317.length : Int) := of_decide_eq_true (by first|(with_reducible assumption)|assumption)
                obtain ⟨ad322, A322_0, c322_0, e322, hx322_0, hl322_0, hi322_0⟩ := at_L1 (Kd.N_reads' HO_10.out).2.2 x11_2 p322 q322
                obtain rfl : ad320 = ad322 := (by injection e322)
                obtain ⟨ce322, hce322, hMe322, hcc322⟩ := Kd.N_get HO_10.out [] x11_2 p322 (by first|exact q322|exact of_decide_eq_true (by first|(with_reducible assumption)|assumption)|(have e_ := (Kd.N_reads' HO_10.out).1;omega))
                obtain ⟨ua322_0, uc322_0, rfl, ul322_0, ge322_0⟩ := Kd.FK_slice_open hMe322
                have hv322_0 := hcc322 0 _ rfl
                rw [Nat.add_zero, show ((Kd.slice 3 (Kd.int .i64))).sz = 1 from rfl, Nat.mul_one] at hv322_0
                replace hv322_0 := Option.some.inj (hv322_0.symm.trans hx322_0)
                injection hv322_0 with hva_ hvn_ hvc_
                rw [hva_] at ge322_0
                rw [hvc_] at ul322_0
                have HL322_0 := Aside0.mk (show Kd.V (Kd.int .i64) 3 _ w.heap.size _ _ (rd_L1 t317 x11_2) from Kd.V_mk ul322_0 ge322_0)
                clear hva_ hvn_ hvc_ ge322_0 ul322_0
                clear hcc322 hce322
                have HR322_0 := Aside0.mk hi322_0
                have HC322_0 := Aside0.mk hl322_0
                clear hi322_0 hl322_0
                replace p322 := eq_true p322
                replace q322 := eq_true q322
                have p323 : 0 ≤ (a2 : Int) := of_decide_eq_true (by first|(with_reducible assumption)|assumption)
                have q323 : a2 < ((rd_L1 t317 x11_2).length : Int) := of_decide_eq_true (by first|(with_reducible assumption)|assumption)
                obtain ⟨ad323, e323, hx323_0⟩ := Kd.at_int (by repeat (first|(with_reducible exact HR322_0.out)|(with_reducible refine Kd.C_alloc ?_ _)|(with_reducible refine Kd.C_drewN ?_ _)|(with_reducible refine Kd.C_drew ?_)|exact HR322_0.out)) a2 p323 q323
                cases e323
                replace p323 := eq_true p323
                replace q323 := eq_true q323
                have p324 : 0 ≤ (x11_2 : Int) := of_decide_eq_true (by first|(with_reducible assumption)|assumption)
                have q324 : x11_2 < (t317.length : Int) := of_decide_eq_true (by first|(with_reducible assumption)|assumption)
                obtain ⟨ad324, A324_0, c324_0, e324, hx324_0, hl324_0, hi324_0⟩ := at_L1 (Kd.N_reads' HO_10.out).2.2 x11_2 p324 q324
                obtain rfl : ad320 = ad324 := (by injection e324)
                obtain ⟨ce324, hce324, hMe324, hcc324⟩ := Kd.N_get HO_10.out [] x11_2 p324 (by first|exact q324|exact of_decide_eq_true (by first|(with_reducible assumption)|assumption)|(have e_ := (Kd.N_reads' HO_10.out).1;omega))
                obtain ⟨ua324_0, uc324_0, rfl, ul324_0, ge324_0⟩ := Kd.FK_slice_open hMe324
                have hv324_0 := hcc324 0 _ rfl
                rw [Nat.add_zero, show ((Kd.slice 3 (Kd.int .i64))).sz = 1 from rfl, Nat.mul_one] at hv324_0
                replace hv324_0 := Option.some.inj (hv324_0.symm.trans hx324_0)
                injection hv324_0 with hva_ hvn_ hvc_
                rw [hva_] at ge324_0
                rw [hvc_] at ul324_0
                have HL324_0 := Aside0.mk (show Kd.V (Kd.int .i64) 3 _ w.heap.size _ _ (rd_L1 t317 x11_2) from Kd.V_mk ul324_0 ge324_0)
                clear hva_ hvn_ hvc_ ge324_0 ul324_0
                clear hcc324 hce324
                have HR324_0 := Aside0.mk hi324_0
                have HC324_0 := Aside0.mk hl324_0
                clear hi324_0 hl324_0
                replace p324 := eq_true p324
                replace q324 := eq_true q324
                have ea_ := Option.some.inj (hx322_0.symm.trans hx324_0)
                injection ea_ with ea_ en_ ec_
                subst ea_
                subst ec_
                clear en_
                have p325 : 0 ≤ (t321 : Int) := of_decide_eq_true (by first|(with_reducible assumption)|assumption)
                have q325 : t321 < ((rd_L1 t317 x11_2).length : Int) := of_decide_eq_true (by first|(with_reducible assumption)|assumption)
                obtain ⟨ad325, e325, hx325_0⟩ := Kd.at_int (by repeat (first|(with_reducible exact HR324_0.out)|(with_reducible refine Kd.C_alloc ?_ _)|(with_reducible refine Kd.C_drewN ?_ _)|(with_reducible refine Kd.C_drew ?_)|exact HR324_0.out)) t321 p325 q325
                cases e325
                replace p325 := eq_true p325
                replace q325 := eq_true q325
                refine start_ (n := 21) (S := fun w' => w'.cell? (ad320.add (x11_2).toNat) = some (.slice (some ad323) (rd_L1 t317 x11_2).length c322_0) ∧ w'.cell? (ad323.add (a2).toNat) = some (.int .i64 (rd (rd_L1 t317 x11_2) a2)) ∧ w'.cell? (ad320.add (x11_2).toNat) = some (.slice (some ad323) (rd_L1 t317 x11_2).length c322_0) ∧ w'.cell? (ad323.add (t321).toNat) = some (.int .i64 (rd (rd_L1 t317 x11_2) t321))) (ds := []) #[false, false, false, false, false, false, false, false, false, false, false, false, false, false, false, false, false, false, false, false, false] (by kernel_rfl) rfl rfl ⟨hx322_0, hx323_0, hx324_0, hx325_0⟩ (fun hHeld => ?_);refine with_tabW spec_SolutionOf.tab14 spec_SolutionOf.bits14 (fun HT_ HW_ => ?_)
                generalize wr.drew = w28 at HO_8 HO_10 HL320_0 HR320_0 HB HL322_0 HL324_0 HR322_0 HR324_0 hx322_0 hx323_0 hx324_0 hx325_0 hHeld ⊢
                refine pure_ (i := 0) (N := some 50) (v := ?_) (a' := ?_) #[true, false, false, false, false, false, false, false, false, false, false, false, false, false, false, false, false, false, false, false, false] rfl rfl (any_of HT_.out (by kernel_rfl)) (fun _ _ _ h => h) (Or.inl ⟨by rfl, ?_⟩) ?_ ?_
                rotate_left
                ·intro w'
                 go_simp
                 with_reducible rfl
                rotate_left
                ·simp only [Act.put, List.setIfInBounds_toArray, List.set_cons_zero, List.set_cons_succ, i64_w, i32_w]
                 rfl
                refine pure_ (i := 1) (N := some 51) (v := ?_) (a' := ?_) #[true, true, false, false, false, false, false, false, false, false, false, false, false, false, false, false, false, false, false, false, false] rfl rfl (any_of HT_.out (by kernel_rfl)) (fun _ _ _ h => h) (Or.inl ⟨by rfl, ?_⟩) ?_ ?_
                rotate_left
                ·intro w'
                 go_simp
                 with_reducible rfl
                rotate_left
                ·simp only [Act.put, List.setIfInBounds_toArray, List.set_cons_zero, List.set_cons_succ, i64_w, i32_w]
                 rfl
                refine pure_ (i := 2) (N := some 52) (v := ?_) (a' := ?_) #[true, true, true, false, false, false, false, false, false, false, false, false, false, false, false, false, false, false, false, false, false] rfl rfl (any_of HT_.out (by kernel_rfl)) (fun _ _ _ h => h) (Or.inl ⟨by rfl, ?_⟩) ?_ ?_
                rotate_left
                ·intro w'
                 go_simp
                 with_reducible rfl
                rotate_left
                ·simp only [Act.put, List.setIfInBounds_toArray, List.set_cons_zero, List.set_cons_succ, i64_w, i32_w]
                 rfl
                refine pure_ (i := 4) (N := some 54) (v := ?_) (a' := ?_) #[true, true, true, false, true, false, false, false, false, false, false, false, false, false, false, false, false, false, false, false, false] rfl rfl (any_of HT_.out (by kernel_rfl)) (fun _ _ _ h => h) (Or.inl ⟨by rfl, ?_⟩) ?_ ?_
                rotate_left
                ·intro w'
                 go_simp
                 with_reducible rfl
                rotate_left
                ·simp only [Act.put, List.setIfInBounds_toArray, List.set_cons_zero, List.set_cons_succ, i64_w, i32_w]
                 rfl
                refine pure_ (i := 7) (N := some 57) (v := ?_) (a' := ?_) #[true, true, true, false, true, false, false, true, false, false, false, false, false, false, false, false, false, false, false, false, false] rfl rfl (any_of HT_.out (by kernel_rfl)) (fun _ _ _ h => h) (Or.inl ⟨by rfl, ?_⟩) ?_ ?_
                rotate_left
                ·intro w'
                 go_simp
                 with_reducible rfl
                rotate_left
                ·simp only [Act.put, List.setIfInBounds_toArray, List.set_cons_zero, List.set_cons_succ, i64_w, i32_w]
                 rfl
                refine pure_ (i := 8) (N := some 58) (v := ?_) (a' := ?_) #[true, true, true, false, true, false, false, true, true, false, false, false, false, false, false, false, false, false, false, false, false] rfl rfl (any_of HT_.out (by kernel_rfl)) (fun _ _ _ h => h) (Or.inl ⟨by rfl, ?_⟩) ?_ ?_
                rotate_left
                ·intro w'
                 go_simp
                 with_reducible rfl
                rotate_left
                ·simp only [Act.put, List.setIfInBounds_toArray, List.set_cons_zero, List.set_cons_succ, i64_w, i32_w]
                 rfl
                refine pure_ (i := 9) (N := some 59) (v := ?_) (a' := ?_) #[true, true, true, false, true, false, false, true, true, true, false, false, false, false, false, false, false, false, false, false, false] rfl rfl (any_of HT_.out (by kernel_rfl)) (fun _ _ _ h => h) (Or.inl ⟨by rfl, ?_⟩) ?_ ?_
                rotate_left
                ·intro w'
                 go_simp
                 with_reducible rfl
                rotate_left
                ·simp only [Act.put, List.setIfInBounds_toArray, List.set_cons_zero, List.set_cons_succ, i64_w, i32_w]
                 rfl
                refine pure_ (i := 11) (N := some 61) (v := ?_) (a' := ?_) #[true, true, true, false, true, false, false, true, true, true, false, true, false, false, false, false, false, false, false, false, false] rfl rfl (any_of HT_.out (by kernel_rfl)) (fun _ _ _ h => h) (Or.inl ⟨by rfl, ?_⟩) ?_ ?_
                rotate_left
                ·intro w'
                 go_simp
                 with_reducible rfl
                rotate_left
                ·simp only [Act.put, List.setIfInBounds_toArray, List.set_cons_zero, List.set_cons_succ, i64_w, i32_w]
                 rfl
                refine take_ (i := 3) (N := some 53) (v := ?_) (a' := ?_) #[true, true, true, true, true, false, false, true, true, true, false, true, false, false, false, false, false, false, false, false, false] rfl rfl (take_ofW HT_.out HW_.out (by kernel_rfl)) (fun _ _ _ h => h) (Or.inl ⟨by rfl, ?_⟩) hHeld ?_ ?_
                rotate_left
                ·rintro w' ⟨s0, s1, s2, s3⟩
                 go_simp
                 with_reducible rfl
                rotate_left
                ·simp only [Act.put, List.setIfInBounds_toArray, List.set_cons_zero, List.set_cons_succ, i64_w, i32_w]
                 rfl
                refine pure_ (i := 5) (N := some 55) (v := ?_) (a' := ?_) #[true, true, true, true, true, true, false, true, true, true, false, true, false, false, false, false, false, false, false, false, false] rfl rfl (any_of HT_.out (by kernel_rfl)) (fun _ _ _ h => h) (Or.inl ⟨by rfl, ?_⟩) ?_ ?_
                rotate_left
                ·intro w'
                 go_simp
                 with_reducible rfl
                rotate_left
                ·simp only [Act.put, List.setIfInBounds_toArray, List.set_cons_zero, List.set_cons_succ, i64_w, i32_w]
                 rfl
                refine take_ (i := 6) (N := some 56) (v := ?_) (a' := ?_) #[true, true, true, true, true, true, true, true, true, true, false, true, false, false, false, false, false, false, false, false, false] rfl rfl (take_ofW HT_.out HW_.out (by kernel_rfl)) (fun _ _ _ h => h) (Or.inl ⟨by rfl, ?_⟩) hHeld ?_ ?_
                rotate_left
                ·rintro w' ⟨s0, s1, s2, s3⟩
                 go_simp
                 with_reducible rfl
                rotate_left
                ·simp only [Act.put, List.setIfInBounds_toArray, List.set_cons_zero, List.set_cons_succ, i64_w, i32_w]
                 rfl
                refine take_ (i := 10) (N := some 60) (v := ?_) (a' := ?_) #[true, true, true, true, true, true, true, true, true, true, true, true, false, false, false, false, false, false, false, false, false] rfl rfl (take_ofW HT_.out HW_.out (by kernel_rfl)) (fun _ _ _ h => h) (Or.inl ⟨by rfl, ?_⟩) hHeld ?_ ?_
                rotate_left
                ·rintro w' ⟨s0, s1, s2, s3⟩
                 go_simp
                 with_reducible rfl
                rotate_left
                ·simp only [Act.put, List.setIfInBounds_toArray, List.set_cons_zero, List.set_cons_succ, i64_w, i32_w]
                 rfl
                refine pure_ (i := 12) (N := some 62) (v := ?_) (a' := ?_) #[true, true, true, true, true, true, true, true, true, true, true, true, true, false, false, false, false, false, false, false, false] rfl rfl (any_of HT_.out (by kernel_rfl)) (fun _ _ _ h => h) (Or.inl ⟨by rfl, ?_⟩) ?_ ?_
                rotate_left
                ·intro w'
                 go_simp
                 with_reducible rfl
                rotate_left
                ·simp only [Act.put, List.setIfInBounds_toArray, List.set_cons_zero, List.set_cons_succ, i64_w, i32_w]
                 rfl
                refine take_ (i := 13) (N := some 63) (v := ?_) (a' := ?_) #[true, true, true, true, true, true, true, true, true, true, true, true, true, true, false, false, false, false, false, false, false] rfl rfl (take_ofW HT_.out HW_.out (by kernel_rfl)) (fun _ _ _ h => h) (Or.inl ⟨by rfl, ?_⟩) hHeld ?_ ?_
                rotate_left
                ·rintro w' ⟨s0, s1, s2, s3⟩
                 go_simp
                 with_reducible rfl
                rotate_left
                ·simp only [Act.put, List.setIfInBounds_toArray, List.set_cons_zero, List.set_cons_succ, i64_w, i32_w]
                 rfl
                refine join_ (σ := Nat) 2 #[true, true, true, true, true, true, true, true, true, true, true, true, true, true, true, true, true, true, true, false, false] (fun s_ => [(64, .tuple #[.agg #[.int .i64 t326, .int .i64 t327], .bool true]), (13, .pointer (some ⟨s_, 0, none⟩)), (49, .tuple #[.agg #[.int .i64 t326, .int .i64 t327], .bool true]), (65, .agg #[.int .i64 t326, .int .i64 t327]), (66, .bool true)]) (fun s_ w' => (w'.cell? (ad320.add (x11_2).toNat) = some (.slice (some ad323) (rd_L1 t317 x11_2).length c322_0) ∧ w'.cell? (ad323.add (a2).toNat) = some (.int .i64 (rd (rd_L1 t317 x11_2) a2)) ∧ w'.cell? (ad320.add (x11_2).toNat) = some (.slice (some ad323) (rd_L1 t317 x11_2).length c322_0) ∧ w'.cell? (ad323.add (t321).toNat) = some (.int .i64 (rd (rd_L1 t317 x11_2) t321))) ∧ (Kd.V (Kd.int .i64) 3 w' w.heap.size (fun k_ => some k_ ≠ (.slice (some ad320) t317.length co27 : Value).ownBlock ∧ some k_ ≠ (u8 : Value).ownBlock ∧ k_ ≠ s_) (.slice A320_0 (rd_L1 t317 x11_2).length c320_0) (rd_L1 t317 x11_2)) ∧ (Kd.V (Kd.int .i64) 3 w' w.heap.size (fun k_ => some k_ ≠ (.slice (some ad320) t317.length co27 : Value).ownBlock ∧ some k_ ≠ (u8 : Value).ownBlock ∧ k_ ≠ s_) (.slice (some ad323) (rd_L1 t317 x11_2).length c322_0) (rd_L1 t317 x11_2)) ∧ (Kd.V (Kd.int .i64) 3 w' w.heap.size (fun k_ => some k_ ≠ (.slice (some ad320) t317.length co27 : Value).ownBlock ∧ some k_ ≠ (u8 : Value).ownBlock ∧ k_ ≠ s_) (.slice (some ad323) (rd_L1 t317 x11_2).length c322_0) (rd_L1 t317 x11_2)) ∧ (Kd.N (Kd.slice 3 (Kd.int .i64)) 23 w' w.heap.size (fun k_ => some k_ ≠ (u8 : Value).ownBlock ∧ k_ ≠ s_) (.slice (some ad320) t317.length co27) t317) ∧ (Kd.R k26 26 w' w.heap.size (fun k_ => k_ ≠ s_) u8 x8_2) ∧ (w'.heap[s_]? = some (.cells #[.int .i64 0, .int .i64 0] 26 (0, 0))) ∧ (w.heap.size ≤ s_) ∧ (w.heap.size ≤ s_) ∧ (Below w.heap.size w w')) ?_ ?_
                rotate_left
                ·intro hCont
                 refine two_ (i := 14) (j := 18) (Ni := some 64) (Nj := some 13) #[true, true, true, true, true, true, true, true, true, true, true, true, true, true, true, false, false, false, false, false, false] #[true, true, true, true, true, true, true, true, true, true, true, true, true, true, false, false, false, false, true, false, false] rfl rfl rfl rfl (two_of HT_.out (by kernel_rfl)) (by decide) (by decide) (fun K hK => ?_) (fun K hK => ?_)
                 ·skip
                  refine goes_ Try.func70 (by kernel_rfl) rfl #[.int .i64 (rd (rd_L1 t317 x11_2) a2), .int .i64 (rd (rd_L1 t317 x11_2) t321)] (by rfl) rfl rfl (by (try simp only [List.map_toArray, List.map_cons, List.map_nil]);first|done|rfl|(simp only [List.length_drop, List.length_take];rfl)) ?_
                  with_reducible refine (spec_l4Make.calls k2 (rd (rd_L1 t317 x11_2) a2) (rd (rd_L1 t317 x11_2) t321) t326 t327 true _ A23.out).mono ?_
                  rintro e w29 ⟨rfl, hb⟩
                  have HS0_ := (hb.cell (World.block_lt_of_cell? _ _ (hHeld.1))).trans (hHeld.1)
                  have HS1_ := (hb.cell (World.block_lt_of_cell? _ _ (hHeld.2.1))).trans (hHeld.2.1)
                  have HS2_ := (hb.cell (World.block_lt_of_cell? _ _ (hHeld.2.2.1))).trans (hHeld.2.2.1)
                  have HS3_ := (hb.cell (World.block_lt_of_cell? _ _ (hHeld.2.2.2))).trans (hHeld.2.2.2)
                  refine ⟨_, rfl, ?_⟩
                  have n0_ := Aside0.mk (Kd.R_below (by (with_reducible repeat (first|apply Kd.R_alloc|apply Kd.R_drewN|apply Kd.R_drew));exact HO_8.out) hb)
                  have n1_ := Aside0.mk (Kd.N_below (by (with_reducible repeat (first|apply Kd.N_alloc|apply Kd.N_drewN|apply Kd.N_drew));exact HO_10.out) hb)
                  have n2_ := Aside0.mk (Kd.V_below (by (with_reducible repeat (first|apply Kd.V_alloc|apply Kd.V_drewN|apply Kd.V_drew));exact HL320_0.out) hb)
                  have n3_ := Aside0.mk (Kd.V_below (by (with_reducible repeat (first|apply Kd.V_alloc|apply Kd.V_drewN|apply Kd.V_drew));exact HL322_0.out) hb)
                  have n4_ := Aside0.mk (Kd.V_below (by (with_reducible repeat (first|apply Kd.V_alloc|apply Kd.V_drewN|apply Kd.V_drew));exact HL324_0.out) hb)
                  have n5_ := Aside0.mk (Kd.C_below (by repeat (first|(with_reducible exact HR320_0.out)|(with_reducible refine Kd.C_alloc ?_ _)|(with_reducible refine Kd.C_drewN ?_ _)|(with_reducible refine Kd.C_drew ?_)|exact HR320_0.out)) hb)
                  have n6_ := Aside0.mk (Kd.C_below (by repeat (first|(with_reducible exact HR322_0.out)|(with_reducible refine Kd.C_alloc ?_ _)|(with_reducible refine Kd.C_drewN ?_ _)|(with_reducible refine Kd.C_drew ?_)|exact HR322_0.out)) hb)
                  have n7_ := Aside0.mk (Kd.C_below (by repeat (first|(with_reducible exact HR324_0.out)|(with_reducible refine Kd.C_alloc ?_ _)|(with_reducible refine Kd.C_drewN ?_ _)|(with_reducible refine Kd.C_drew ?_)|exact HR324_0.out)) hb)
                  have n8_ := Aside0.mk (below_step (by repeat first|(with_reducible first|exact HB.out|apply below_alloc|apply pw_below_drewN|apply below_drew1)|exact HB.out) hb)
                  clear HO_8
                  clear HO_10
                  clear HL320_0
                  clear HL322_0
                  clear HL324_0
                  clear HR320_0
                  clear HR322_0
                  clear HR324_0
                  clear HB
                  have HO_8 := n0_
                  have HO_10 := n1_
                  have HL320_0 := n2_
                  have HL322_0 := n3_
                  have HL324_0 := n4_
                  have HR320_0 := n5_
                  have HR322_0 := n6_
                  have HR324_0 := n7_
                  have HB := n8_
                  clear n0_ n1_ n2_ n3_ n4_ n5_ n6_ n7_ n8_
                  (try clear hb)
                  (try clear hb2)
                  (try clear hk)
                  (try clear hi)
                  refine hK.out _ _ ⟨HS0_, HS1_, HS2_, HS3_⟩ (fun hHeld => ?_)
                  clear hK K
                  refine norm_ (a' := ?_) ?_ ?_
                  rotate_left
                  ·show Act.put _ (some 64) _ = _
                   simp only [Act.put, List.setIfInBounds_toArray, List.set_cons_zero, List.set_cons_succ, i64_w, i32_w]
                   rfl
                  refine pure_ (i := 15) (N := some 49) (v := ?_) (a' := ?_) #[true, true, true, true, true, true, true, true, true, true, true, true, true, true, true, true, false, false, false, false, false] rfl rfl (any_of HT_.out (by kernel_rfl)) (fun _ _ _ h => h) (Or.inl ⟨by rfl, ?_⟩) ?_ ?_
                  rotate_left
                  ·intro w'
                   go_simp
                   with_reducible rfl
                  rotate_left
                  ·simp only [Act.put, List.setIfInBounds_toArray, List.set_cons_zero, List.set_cons_succ, i64_w, i32_w]
                   rfl
                  refine pure_ (i := 16) (N := some 65) (v := ?_) (a' := ?_) #[true, true, true, true, true, true, true, true, true, true, true, true, true, true, true, true, true, false, false, false, false] rfl rfl (any_of HT_.out (by kernel_rfl)) (fun _ _ _ h => h) (Or.inl ⟨by rfl, ?_⟩) ?_ ?_
                  rotate_left
                  ·intro w'
                   go_simp
                   with_reducible rfl
                  rotate_left
                  ·simp only [Act.put, List.setIfInBounds_toArray, List.set_cons_zero, List.set_cons_succ, i64_w, i32_w]
                   rfl
                  refine pure_ (i := 17) (N := some 66) (v := ?_) (a' := ?_) #[true, true, true, true, true, true, true, true, true, true, true, true, true, true, true, true, true, true, false, false, false] rfl rfl (any_of HT_.out (by kernel_rfl)) (fun _ _ _ h => h) (Or.inl ⟨by rfl, ?_⟩) ?_ ?_
                  rotate_left
                  ·intro w'
                   go_simp
                   with_reducible rfl
                  rotate_left
                  ·simp only [Act.put, List.setIfInBounds_toArray, List.set_cons_zero, List.set_cons_succ, i64_w, i32_w]
                   rfl
                  refine one_ (i := 18) (N := some 13) #[true, true, true, true, true, true, true, true, true, true, true, true, true, true, true, true, true, true, true, false, false] rfl rfl (one_of HT_.out (by kernel_rfl)) (by decide) (fun K hK => ?_)
                  refine box_step ?hg (N := 13) ?hd (cs := #[.int .i64 0, .int .i64 0]) (t := 26) ?hr ?_;(case hd => rfl);(case hg => rfl);(case hr => first|(go_simp;done)|(go_simp;rfl))
                  intro gb329 hg w30 hbox hb
                  have HS0_ := (hb.cell (World.block_lt_of_cell? _ _ (hHeld.1))).trans (hHeld.1)
                  have HS1_ := (hb.cell (World.block_lt_of_cell? _ _ (hHeld.2.1))).trans (hHeld.2.1)
                  have HS2_ := (hb.cell (World.block_lt_of_cell? _ _ (hHeld.2.2.1))).trans (hHeld.2.2.1)
                  have HS3_ := (hb.cell (World.block_lt_of_cell? _ _ (hHeld.2.2.2))).trans (hHeld.2.2.2)
                  have n0_ := Aside0.mk (Kd.R_below (Kd.R_elderB (by (with_reducible repeat (first|apply Kd.R_alloc|apply Kd.R_drewN|apply Kd.R_drew));exact HO_8.out) gb329 (Nat.le_of_eq hg.symm)) hb)
                  have n1_ := Aside0.mk (Kd.N_below (Kd.N_elderB (by (with_reducible repeat (first|apply Kd.N_alloc|apply Kd.N_drewN|apply Kd.N_drew));exact HO_10.out) gb329 (Nat.le_of_eq hg.symm)) hb)
                  have n2_ := Aside0.mk (Kd.V_below (Kd.V_elderB (by (with_reducible repeat (first|apply Kd.V_alloc|apply Kd.V_drewN|apply Kd.V_drew));exact HL320_0.out) gb329 (Nat.le_of_eq hg.symm)) hb)
                  have n3_ := Aside0.mk (Kd.V_below (Kd.V_elderB (by (with_reducible repeat (first|apply Kd.V_alloc|apply Kd.V_drewN|apply Kd.V_drew));exact HL322_0.out) gb329 (Nat.le_of_eq hg.symm)) hb)
                  have n4_ := Aside0.mk (Kd.V_below (Kd.V_elderB (by (with_reducible repeat (first|apply Kd.V_alloc|apply Kd.V_drewN|apply Kd.V_drew));exact HL324_0.out) gb329 (Nat.le_of_eq hg.symm)) hb)
                  have n5_ := Aside0.mk (Kd.C_below (by repeat (first|(with_reducible exact HR320_0.out)|(with_reducible refine Kd.C_alloc ?_ _)|(with_reducible refine Kd.C_drewN ?_ _)|(with_reducible refine Kd.C_drew ?_)|exact HR320_0.out)) hb)
                  have n6_ := Aside0.mk (Kd.C_below (by repeat (first|(with_reducible exact HR322_0.out)|(with_reducible refine Kd.C_alloc ?_ _)|(with_reducible refine Kd.C_drewN ?_ _)|(with_reducible refine Kd.C_drew ?_)|exact HR322_0.out)) hb)
                  have n7_ := Aside0.mk (Kd.C_below (by repeat (first|(with_reducible exact HR324_0.out)|(with_reducible refine Kd.C_alloc ?_ _)|(with_reducible refine Kd.C_drewN ?_ _)|(with_reducible refine Kd.C_drew ?_)|exact HR324_0.out)) hb)
                  have n8_ := Aside0.mk (below_step (by repeat first|(with_reducible first|exact HB.out|apply below_alloc|apply pw_below_drewN|apply below_drew1)|exact HB.out) hb)
                  have n9_ := Aside0.mk (hbox)
                  have n10_ := Aside0.mk ((by rw [hg];exact (below_size (by repeat first|(with_reducible first|exact HB.out|apply below_alloc|apply pw_below_drewN|apply below_drew1)|exact HB.out)) : w.heap.size ≤ gb329))
                  have n11_ := Aside0.mk ((by rw [hg];exact (below_size (by repeat first|(with_reducible first|exact HB.out|apply below_alloc|apply pw_below_drewN|apply below_drew1)|exact HB.out)) : w.heap.size ≤ gb329))
                  clear HO_8
                  clear HO_10
                  clear HL320_0
                  clear HL322_0
                  clear HL324_0
                  clear HR320_0
                  clear HR322_0
                  clear HR324_0
                  clear HB
                  have HO_8 := n0_
                  have HO_10 := n1_
                  have HL320_0 := n2_
                  have HL322_0 := n3_
                  have HL324_0 := n4_
                  have HR320_0 := n5_
                  have HR322_0 := n6_
                  have HR324_0 := n7_
                  have HB := n8_
                  have BK329 := n9_
                  have GW329 := n10_
                  have GE329 := n11_
                  clear n0_ n1_ n2_ n3_ n4_ n5_ n6_ n7_ n8_ n9_ n10_ n11_
                  clear hb hbox hg
                  refine hK.out _ _ ⟨HS0_, HS1_, HS2_, HS3_⟩ (fun hHeld => ?_)
                  clear hK K
                  refine norm_ (a' := ?_) ?_ ?_
                  rotate_left
                  ·show Act.put _ (some 13) _ = _
                   simp only [Act.put, List.setIfInBounds_toArray, List.set_cons_zero, List.set_cons_succ, i64_w, i32_w]
                   rfl
                  exact norm_ (by simp only [putAll, Act.put, List.setIfInBounds_toArray, List.set_cons_zero, List.set_cons_succ]) (hCont (gb329) _ ⟨hHeld, (by (with_reducible repeat (first|apply Kd.V_alloc|apply Kd.V_drewN|apply Kd.V_drew));exact Kd.V_mono HL320_0.out (fun _ hk => by first|exact ⟨hk.1.2, ⟨hk.1.1, hk.2⟩⟩|exact ⟨hk.1.1, ⟨hk.1.2, hk.2⟩⟩|exact ⟨⟨hk.1.1, hk.1.2⟩, hk.2⟩|exact ⟨hk.2, hk.1⟩|((repeat' apply And.intro) <;> simp_all))), (by (with_reducible repeat (first|apply Kd.V_alloc|apply Kd.V_drewN|apply Kd.V_drew));exact Kd.V_mono HL322_0.out (fun _ hk => by first|exact ⟨hk.1.2, ⟨hk.1.1, hk.2⟩⟩|exact ⟨hk.1.1, ⟨hk.1.2, hk.2⟩⟩|exact ⟨⟨hk.1.1, hk.1.2⟩, hk.2⟩|exact ⟨hk.2, hk.1⟩|((repeat' apply And.intro) <;> simp_all))), (by (with_reducible repeat (first|apply Kd.V_alloc|apply Kd.V_drewN|apply Kd.V_drew));exact Kd.V_mono HL324_0.out (fun _ hk => by first|exact ⟨hk.1.2, ⟨hk.1.1, hk.2⟩⟩|exact ⟨hk.1.1, ⟨hk.1.2, hk.2⟩⟩|exact ⟨⟨hk.1.1, hk.1.2⟩, hk.2⟩|exact ⟨hk.2, hk.1⟩|((repeat' apply And.intro) <;> simp_all))), (by (with_reducible repeat (first|apply Kd.N_alloc|apply Kd.N_drewN|apply Kd.N_drew));exact HO_10.out), (by (with_reducible repeat (first|apply Kd.R_alloc|apply Kd.R_drewN|apply Kd.R_drew));exact Kd.R_mono HO_8.out (fun _ hk => hk.2)), (by (with_reducible repeat (first|refine blk_drewN ?_ _|refine blk_drew ?_|refine blk_alloc ?_ _));exact BK329.out), GW329.out, GE329.out, (by repeat (first|(with_reducible first|exact HB.out|apply below_alloc|apply pw_below_drewN|apply below_drew1|refine below_set ?_ GE329.out)|exact HB.out))⟩)
                 ·skip
                  refine box_step ?hg (N := 13) ?hd (cs := #[.int .i64 0, .int .i64 0]) (t := 26) ?hr ?_;(case hd => rfl);(case hg => rfl);(case hr => first|(go_simp;done)|(go_simp;rfl))
                  intro gb329 hg w29 hbox hb
                  have HS0_ := (hb.cell (World.block_lt_of_cell? _ _ (hHeld.1))).trans (hHeld.1)
                  have HS1_ := (hb.cell (World.block_lt_of_cell? _ _ (hHeld.2.1))).trans (hHeld.2.1)
                  have HS2_ := (hb.cell (World.block_lt_of_cell? _ _ (hHeld.2.2.1))).trans (hHeld.2.2.1)
                  have HS3_ := (hb.cell (World.block_lt_of_cell? _ _ (hHeld.2.2.2))).trans (hHeld.2.2.2)
                  have n0_ := Aside0.mk (Kd.R_below (Kd.R_elderB (by (with_reducible repeat (first|apply Kd.R_alloc|apply Kd.R_drewN|apply Kd.R_drew));exact HO_8.out) gb329 (Nat.le_of_eq hg.symm)) hb)
                  have n1_ := Aside0.mk (Kd.N_below (Kd.N_elderB (by (with_reducible repeat (first|apply Kd.N_alloc|apply Kd.N_drewN|apply Kd.N_drew));exact HO_10.out) gb329 (Nat.le_of_eq hg.symm)) hb)
                  have n2_ := Aside0.mk (Kd.V_below (Kd.V_elderB (by (with_reducible repeat (first|apply Kd.V_alloc|apply Kd.V_drewN|apply Kd.V_drew));exact HL320_0.out) gb329 (Nat.le_of_eq hg.symm)) hb)
                  have n3_ := Aside0.mk (Kd.V_below (Kd.V_elderB (by (with_reducible repeat (first|apply Kd.V_alloc|apply Kd.V_drewN|apply Kd.V_drew));exact HL322_0.out) gb329 (Nat.le_of_eq hg.symm)) hb)
                  have n4_ := Aside0.mk (Kd.V_below (Kd.V_elderB (by (with_reducible repeat (first|apply Kd.V_alloc|apply Kd.V_drewN|apply Kd.V_drew));exact HL324_0.out) gb329 (Nat.le_of_eq hg.symm)) hb)
                  have n5_ := Aside0.mk (Kd.C_below (by repeat (first|(with_reducible exact HR320_0.out)|(with_reducible refine Kd.C_alloc ?_ _)|(with_reducible refine Kd.C_drewN ?_ _)|(with_reducible refine Kd.C_drew ?_)|exact HR320_0.out)) hb)
                  have n6_ := Aside0.mk (Kd.C_below (by repeat (first|(with_reducible exact HR322_0.out)|(with_reducible refine Kd.C_alloc ?_ _)|(with_reducible refine Kd.C_drewN ?_ _)|(with_reducible refine Kd.C_drew ?_)|exact HR322_0.out)) hb)
                  have n7_ := Aside0.mk (Kd.C_below (by repeat (first|(with_reducible exact HR324_0.out)|(with_reducible refine Kd.C_alloc ?_ _)|(with_reducible refine Kd.C_drewN ?_ _)|(with_reducible refine Kd.C_drew ?_)|exact HR324_0.out)) hb)
                  have n8_ := Aside0.mk (below_step (by repeat first|(with_reducible first|exact HB.out|apply below_alloc|apply pw_below_drewN|apply below_drew1)|exact HB.out) hb)
                  have n9_ := Aside0.mk (hbox)
                  have n10_ := Aside0.mk ((by rw [hg];exact (below_size (by repeat first|(with_reducible first|exact HB.out|apply below_alloc|apply pw_below_drewN|apply below_drew1)|exact HB.out)) : w.heap.size ≤ gb329))
                  have n11_ := Aside0.mk ((by rw [hg];exact (below_size (by repeat first|(with_reducible first|exact HB.out|apply below_alloc|apply pw_below_drewN|apply below_drew1)|exact HB.out)) : w.heap.size ≤ gb329))
                  clear HO_8
                  clear HO_10
                  clear HL320_0
                  clear HL322_0
                  clear HL324_0
                  clear HR320_0
                  clear HR322_0
                  clear HR324_0
                  clear HB
                  have HO_8 := n0_
                  have HO_10 := n1_
                  have HL320_0 := n2_
                  have HL322_0 := n3_
                  have HL324_0 := n4_
                  have HR320_0 := n5_
                  have HR322_0 := n6_
                  have HR324_0 := n7_
                  have HB := n8_
                  have BK329 := n9_
                  have GW329 := n10_
                  have GE329 := n11_
                  clear n0_ n1_ n2_ n3_ n4_ n5_ n6_ n7_ n8_ n9_ n10_ n11_
                  clear hb hbox hg
                  refine hK.out _ _ ⟨HS0_, HS1_, HS2_, HS3_⟩ (fun hHeld => ?_)
                  clear hK K
                  refine norm_ (a' := ?_) ?_ ?_
                  rotate_left
                  ·show Act.put _ (some 13) _ = _
                   simp only [Act.put, List.setIfInBounds_toArray, List.set_cons_zero, List.set_cons_succ, i64_w, i32_w]
                   rfl
                  refine one_ (i := 14) (N := some 64) #[true, true, true, true, true, true, true, true, true, true, true, true, true, true, true, false, false, false, true, false, false] rfl rfl (one_of HT_.out (by kernel_rfl)) (by decide) (fun K hK => ?_)
                  refine goes_ Try.func70 (by kernel_rfl) rfl #[.int .i64 (rd (rd_L1 t317 x11_2) a2), .int .i64 (rd (rd_L1 t317 x11_2) t321)] (by rfl) rfl rfl (by (try simp only [List.map_toArray, List.map_cons, List.map_nil]);first|done|rfl|(simp only [List.length_drop, List.length_take];rfl)) ?_
                  with_reducible refine (spec_l4Make.calls k2 (rd (rd_L1 t317 x11_2) a2) (rd (rd_L1 t317 x11_2) t321) t326 t327 true _ A23.out).mono ?_
                  rintro e w30 ⟨rfl, hb⟩
                  have HS0_ := (hb.cell (World.block_lt_of_cell? _ _ (hHeld.1))).trans (hHeld.1)
                  have HS1_ := (hb.cell (World.block_lt_of_cell? _ _ (hHeld.2.1))).trans (hHeld.2.1)
                  have HS2_ := (hb.cell (World.block_lt_of_cell? _ _ (hHeld.2.2.1))).trans (hHeld.2.2.1)
                  have HS3_ := (hb.cell (World.block_lt_of_cell? _ _ (hHeld.2.2.2))).trans (hHeld.2.2.2)
                  refine ⟨_, rfl, ?_⟩
                  have n0_ := Aside0.mk (Kd.R_below (by (with_reducible repeat (first|apply Kd.R_alloc|apply Kd.R_drewN|apply Kd.R_drew));exact HO_8.out) hb)
                  have n1_ := Aside0.mk (Kd.N_below (by (with_reducible repeat (first|apply Kd.N_alloc|apply Kd.N_drewN|apply Kd.N_drew));exact HO_10.out) hb)
                  have n2_ := Aside0.mk (Kd.V_below (by (with_reducible repeat (first|apply Kd.V_alloc|apply Kd.V_drewN|apply Kd.V_drew));exact HL320_0.out) hb)
                  have n3_ := Aside0.mk (Kd.V_below (by (with_reducible repeat (first|apply Kd.V_alloc|apply Kd.V_drewN|apply Kd.V_drew));exact HL322_0.out) hb)
                  have n4_ := Aside0.mk (Kd.V_below (by (with_reducible repeat (first|apply Kd.V_alloc|apply Kd.V_drewN|apply Kd.V_drew));exact HL324_0.out) hb)
                  have n5_ := Aside0.mk (Kd.C_below (by repeat (first|(with_reducible exact HR320_0.out)|(with_reducible refine Kd.C_alloc ?_ _)|(with_reducible refine Kd.C_drewN ?_ _)|(with_reducible refine Kd.C_drew ?_)|exact HR320_0.out)) hb)
                  have n6_ := Aside0.mk (Kd.C_below (by repeat (first|(with_reducible exact HR322_0.out)|(with_reducible refine Kd.C_alloc ?_ _)|(with_reducible refine Kd.C_drewN ?_ _)|(with_reducible refine Kd.C_drew ?_)|exact HR322_0.out)) hb)
                  have n7_ := Aside0.mk (Kd.C_below (by repeat (first|(with_reducible exact HR324_0.out)|(with_reducible refine Kd.C_alloc ?_ _)|(with_reducible refine Kd.C_drewN ?_ _)|(with_reducible refine Kd.C_drew ?_)|exact HR324_0.out)) hb)
                  have n8_ := Aside0.mk (blk_below (g := gb329) (o := .cells #[.int .i64 0, .int .i64 0] 26 (0, 0)) (by (with_reducible repeat (first|refine blk_drewN ?_ _|refine blk_drew ?_|refine blk_alloc ?_ _));exact BK329.out) hb)
                  have n9_ := Aside0.mk (below_step (by repeat (first|(with_reducible first|exact HB.out|apply below_alloc|apply pw_below_drewN|apply below_drew1|refine below_set ?_ GE329.out)|exact HB.out)) hb)
                  clear HO_8
                  clear HO_10
                  clear HL320_0
                  clear HL322_0
                  clear HL324_0
                  clear HR320_0
                  clear HR322_0
                  clear HR324_0
                  clear BK329
                  clear HB
                  have HO_8 := n0_
                  have HO_10 := n1_
                  have HL320_0 := n2_
                  have HL322_0 := n3_
                  have HL324_0 := n4_
                  have HR320_0 := n5_
                  have HR322_0 := n6_
                  have HR324_0 := n7_
                  have BK329 := n8_
                  have HB := n9_
                  clear n0_ n1_ n2_ n3_ n4_ n5_ n6_ n7_ n8_ n9_
                  (try clear hb)
                  (try clear hb2)
                  (try clear hk)
                  (try clear hi)
                  refine hK.out _ _ ⟨HS0_, HS1_, HS2_, HS3_⟩ (fun hHeld => ?_)
                  clear hK K
                  refine norm_ (a' := ?_) ?_ ?_
                  rotate_left
                  ·show Act.put _ (some 64) _ = _
                   simp only [Act.put, List.setIfInBounds_toArray, List.set_cons_zero, List.set_cons_succ, i64_w, i32_w]
                   rfl
                  refine pure_ (i := 15) (N := some 49) (v := ?_) (a' := ?_) #[true, true, true, true, true, true, true, true, true, true, true, true, true, true, true, true, false, false, true, false, false] rfl rfl (any_of HT_.out (by kernel_rfl)) (fun _ _ _ h => h) (Or.inl ⟨by rfl, ?_⟩) ?_ ?_
                  rotate_left
                  ·intro w'
                   go_simp
                   with_reducible rfl
                  rotate_left
                  ·simp only [Act.put, List.setIfInBounds_toArray, List.set_cons_zero, List.set_cons_succ, i64_w, i32_w]
                   rfl
                  refine pure_ (i := 16) (N := some 65) (v := ?_) (a' := ?_) #[true, true, true, true, true, true, true, true, true, true, true, true, true, true, true, true, true, false, true, false, false] rfl rfl (any_of HT_.out (by kernel_rfl)) (fun _ _ _ h => h) (Or.inl ⟨by rfl, ?_⟩) ?_ ?_
                  rotate_left
                  ·intro w'
                   go_simp
                   with_reducible rfl
                  rotate_left
                  ·simp only [Act.put, List.setIfInBounds_toArray, List.set_cons_zero, List.set_cons_succ, i64_w, i32_w]
                   rfl
                  refine pure_ (i := 17) (N := some 66) (v := ?_) (a' := ?_) #[true, true, true, true, true, true, true, true, true, true, true, true, true, true, true, true, true, true, true, false, false] rfl rfl (any_of HT_.out (by kernel_rfl)) (fun _ _ _ h => h) (Or.inl ⟨by rfl, ?_⟩) ?_ ?_
                  rotate_left
                  ·intro w'
                   go_simp
                   with_reducible rfl
                  rotate_left
                  ·simp only [Act.put, List.setIfInBounds_toArray, List.set_cons_zero, List.set_cons_succ, i64_w, i32_w]
                   rfl
                  exact norm_ (by simp only [putAll, Act.put, List.setIfInBounds_toArray, List.set_cons_zero, List.set_cons_succ]) (hCont (gb329) _ ⟨hHeld, (by (with_reducible repeat (first|apply Kd.V_alloc|apply Kd.V_drewN|apply Kd.V_drew));exact Kd.V_mono HL320_0.out (fun _ hk => by first|exact ⟨hk.1.2, ⟨hk.1.1, hk.2⟩⟩|exact ⟨hk.1.1, ⟨hk.1.2, hk.2⟩⟩|exact ⟨⟨hk.1.1, hk.1.2⟩, hk.2⟩|exact ⟨hk.2, hk.1⟩|((repeat' apply And.intro) <;> simp_all))), (by (with_reducible repeat (first|apply Kd.V_alloc|apply Kd.V_drewN|apply Kd.V_drew));exact Kd.V_mono HL322_0.out (fun _ hk => by first|exact ⟨hk.1.2, ⟨hk.1.1, hk.2⟩⟩|exact ⟨hk.1.1, ⟨hk.1.2, hk.2⟩⟩|exact ⟨⟨hk.1.1, hk.1.2⟩, hk.2⟩|exact ⟨hk.2, hk.1⟩|((repeat' apply And.intro) <;> simp_all))), (by (with_reducible repeat (first|apply Kd.V_alloc|apply Kd.V_drewN|apply Kd.V_drew));exact Kd.V_mono HL324_0.out (fun _ hk => by first|exact ⟨hk.1.2, ⟨hk.1.1, hk.2⟩⟩|exact ⟨hk.1.1, ⟨hk.1.2, hk.2⟩⟩|exact ⟨⟨hk.1.1, hk.1.2⟩, hk.2⟩|exact ⟨hk.2, hk.1⟩|((repeat' apply And.intro) <;> simp_all))), (by (with_reducible repeat (first|apply Kd.N_alloc|apply Kd.N_drewN|apply Kd.N_drew));exact HO_10.out), (by (with_reducible repeat (first|apply Kd.R_alloc|apply Kd.R_drewN|apply Kd.R_drew));exact Kd.R_mono HO_8.out (fun _ hk => hk.2)), (by (with_reducible repeat (first|refine blk_drewN ?_ _|refine blk_drew ?_|refine blk_alloc ?_ _));exact BK329.out), GW329.out, GE329.out, (by repeat (first|(with_reducible first|exact HB.out|apply below_alloc|apply pw_below_drewN|apply below_drew1|refine below_set ?_ GE329.out)|exact HB.out))⟩)
                rintro gb329 w31 ⟨hS_, h0_, h1_, h2_, h3_, h4_, h5_, h6_, h7_, h8_⟩
                have n0_ : Aside0 (Kd.V (Kd.int .i64) 3 w31 w.heap.size (fun k_ => some k_ ≠ (.slice (some ad320) t317.length co27 : Value).ownBlock ∧ some k_ ≠ (u8 : Value).ownBlock ∧ k_ ≠ gb329) (.slice A320_0 (rd_L1 t317 x11_2).length c320_0) (rd_L1 t317 x11_2)) := ⟨h0_⟩
                have n1_ : Aside0 (Kd.V (Kd.int .i64) 3 w31 w.heap.size (fun k_ => some k_ ≠ (.slice (some ad320) t317.length co27 : Value).ownBlock ∧ some k_ ≠ (u8 : Value).ownBlock ∧ k_ ≠ gb329) (.slice (some ad323) (rd_L1 t317 x11_2).length c322_0) (rd_L1 t317 x11_2)) := ⟨h1_⟩
                have n2_ : Aside0 (Kd.V (Kd.int .i64) 3 w31 w.heap.size (fun k_ => some k_ ≠ (.slice (some ad320) t317.length co27 : Value).ownBlock ∧ some k_ ≠ (u8 : Value).ownBlock ∧ k_ ≠ gb329) (.slice (some ad323) (rd_L1 t317 x11_2).length c322_0) (rd_L1 t317 x11_2)) := ⟨h2_⟩
                have n3_ : Aside0 (Kd.N (Kd.slice 3 (Kd.int .i64)) 23 w31 w.heap.size (fun k_ => some k_ ≠ (u8 : Value).ownBlock ∧ k_ ≠ gb329) (.slice (some ad320) t317.length co27) t317) := ⟨h3_⟩
                have n4_ : Aside0 (Kd.R k26 26 w31 w.heap.size (fun k_ => k_ ≠ gb329) u8 x8_2) := ⟨h4_⟩
                have n5_ : Aside0 (w31.heap[gb329]? = some (.cells #[.int .i64 0, .int .i64 0] 26 (0, 0))) := ⟨h5_⟩
                have n6_ : Aside0 (w.heap.size ≤ gb329) := ⟨h6_⟩
                have n7_ : Aside0 (w.heap.size ≤ gb329) := ⟨h7_⟩
                have n8_ : Aside0 (Below w.heap.size w w31) := ⟨h8_⟩
                clear HO_8
                clear HO_10
                clear HL320_0
                clear HR320_0
                clear HB
                clear h0_ h1_ h2_ h3_ h4_ h5_ h6_ h7_ h8_
                have HL320_0 := n0_
                have HL322_0 := n1_
                have HL324_0 := n2_
                have HO_10 := n3_
                have HO_8 := n4_
                have BK329 := n5_
                have GW329 := n6_
                have GE329 := n7_
                have HB := n8_
                clear n0_ n1_ n2_ n3_ n4_ n5_ n6_ n7_ n8_
                have hHeld : w31.cell? (ad320.add (x11_2).toNat) = some (.slice (some ad323) (rd_L1 t317 x11_2).length c322_0) ∧ w31.cell? (ad323.add (a2).toNat) = some (.int .i64 (rd (rd_L1 t317 x11_2) a2)) ∧ w31.cell? (ad320.add (x11_2).toNat) = some (.slice (some ad323) (rd_L1 t317 x11_2).length c322_0) ∧ w31.cell? (ad323.add (t321).toNat) = some (.int .i64 (rd (rd_L1 t317 x11_2) t321)) := hS_
                refine norm_ (a' := ?_) ?_ ?_
                rotate_left
                ·simp only [putAll, Act.put, List.setIfInBounds_toArray, List.set_cons_zero, List.set_cons_succ]
                 rfl
                refine one_ (i := 19) (N := none) #[true, true, true, true, true, true, true, true, true, true, true, true, true, true, true, true, true, true, true, true, false] rfl rfl (one_of HT_.out (by kernel_rfl)) (by decide) (fun K hK => ?_)
                have hs32 : w31.cell? ⟨gb329, 0, none⟩ = some (.int .i64 0) := (blk_cell BK329.out 0).trans rfl
                have hfs32 := blk_frozen BK329.out 0
                have hs33 : w31.cell? ⟨gb329, 1, none⟩ = some (.int .i64 0) := (blk_cell BK329.out 1).trans rfl
                have hfs33 := blk_frozen BK329.out 1
                refine skip_ (w1 := ?_) (by rfl) rfl ?_ ?_
                rotate_left
                ·go_simp
                 rfl
                refine hK.out _ _ ⟨((cell_far (p := ⟨gb329, _, none⟩) (by first|exact Kd.own_blk (Kd.N_away HO_10.out (fun _ hk => hk.2))|(rw [add_block];exact Kd.own_blk (Kd.N_away HO_10.out (fun _ hk => hk.2)))|(show (Addr.add _ _).block ≠ _;rw [add_block];exact Kd.own_blk (Kd.N_away HO_10.out (fun _ hk => hk.2)))|(dsimp only;exact Kd.own_blk (Kd.N_away HO_10.out (fun _ hk => hk.2)))) _).trans (((cell_far (p := ⟨gb329, _, none⟩) (by first|exact Kd.own_blk (Kd.N_away HO_10.out (fun _ hk => hk.2))|(rw [add_block];exact Kd.own_blk (Kd.N_away HO_10.out (fun _ hk => hk.2)))|(show (Addr.add _ _).block ≠ _;rw [add_block];exact Kd.own_blk (Kd.N_away HO_10.out (fun _ hk => hk.2)))|(dsimp only;exact Kd.own_blk (Kd.N_away HO_10.out (fun _ hk => hk.2)))) _).trans (hHeld.1)))), ((cell_far (p := ⟨gb329, _, none⟩) (by first|exact Kd.own_blk (vaway HL322_0.out (by have a_ := of_eq_true p323;have b_ := of_eq_true q323;omega) (fun _ hk => hk.2.2))|(rw [add_block];exact Kd.own_blk (vaway HL322_0.out (by have a_ := of_eq_true p323;have b_ := of_eq_true q323;omega) (fun _ hk => hk.2.2)))|(show (Addr.add _ _).block ≠ _;rw [add_block];exact Kd.own_blk (vaway HL322_0.out (by have a_ := of_eq_true p323;have b_ := of_eq_true q323;omega) (fun _ hk => hk.2.2)))|(dsimp only;exact Kd.own_blk (vaway HL322_0.out (by have a_ := of_eq_true p323;have b_ := of_eq_true q323;omega) (fun _ hk => hk.2.2)))) _).trans (((cell_far (p := ⟨gb329, _, none⟩) (by first|exact Kd.own_blk (vaway HL322_0.out (by have a_ := of_eq_true p323;have b_ := of_eq_true q323;omega) (fun _ hk => hk.2.2))|(rw [add_block];exact Kd.own_blk (vaway HL322_0.out (by have a_ := of_eq_true p323;have b_ := of_eq_true q323;omega) (fun _ hk => hk.2.2)))|(show (Addr.add _ _).block ≠ _;rw [add_block];exact Kd.own_blk (vaway HL322_0.out (by have a_ := of_eq_true p323;have b_ := of_eq_true q323;omega) (fun _ hk => hk.2.2)))|(dsimp only;exact Kd.own_blk (vaway HL322_0.out (by have a_ := of_eq_true p323;have b_ := of_eq_true q323;omega) (fun _ hk => hk.2.2)))) _).trans (hHeld.2.1)))), ((cell_far (p := ⟨gb329, _, none⟩) (by first|exact Kd.own_blk (Kd.N_away HO_10.out (fun _ hk => hk.2))|(rw [add_block];exact Kd.own_blk (Kd.N_away HO_10.out (fun _ hk => hk.2)))|(show (Addr.add _ _).block ≠ _;rw [add_block];exact Kd.own_blk (Kd.N_away HO_10.out (fun _ hk => hk.2)))|(dsimp only;exact Kd.own_blk (Kd.N_away HO_10.out (fun _ hk => hk.2)))) _).trans (((cell_far (p := ⟨gb329, _, none⟩) (by first|exact Kd.own_blk (Kd.N_away HO_10.out (fun _ hk => hk.2))|(rw [add_block];exact Kd.own_blk (Kd.N_away HO_10.out (fun _ hk => hk.2)))|(show (Addr.add _ _).block ≠ _;rw [add_block];exact Kd.own_blk (Kd.N_away HO_10.out (fun _ hk => hk.2)))|(dsimp only;exact Kd.own_blk (Kd.N_away HO_10.out (fun _ hk => hk.2)))) _).trans (hHeld.2.2.1)))), ((cell_far (p := ⟨gb329, _, none⟩) (by first|exact Kd.own_blk (vaway HL324_0.out (by have a_ := of_eq_true p325;have b_ := of_eq_true q325;omega) (fun _ hk => hk.2.2))|(rw [add_block];exact Kd.own_blk (vaway HL324_0.out (by have a_ := of_eq_true p325;have b_ := of_eq_true q325;omega) (fun _ hk => hk.2.2)))|(show (Addr.add _ _).block ≠ _;rw [add_block];exact Kd.own_blk (vaway HL324_0.out (by have a_ := of_eq_true p325;have b_ := of_eq_true q325;omega) (fun _ hk => hk.2.2)))|(dsimp only;exact Kd.own_blk (vaway HL324_0.out (by have a_ := of_eq_true p325;have b_ := of_eq_true q325;omega) (fun _ hk => hk.2.2)))) _).trans (((cell_far (p := ⟨gb329, _, none⟩) (by first|exact Kd.own_blk (vaway HL324_0.out (by have a_ := of_eq_true p325;have b_ := of_eq_true q325;omega) (fun _ hk => hk.2.2))|(rw [add_block];exact Kd.own_blk (vaway HL324_0.out (by have a_ := of_eq_true p325;have b_ := of_eq_true q325;omega) (fun _ hk => hk.2.2)))|(show (Addr.add _ _).block ≠ _;rw [add_block];exact Kd.own_blk (vaway HL324_0.out (by have a_ := of_eq_true p325;have b_ := of_eq_true q325;omega) (fun _ hk => hk.2.2)))|(dsimp only;exact Kd.own_blk (vaway HL324_0.out (by have a_ := of_eq_true p325;have b_ := of_eq_true q325;omega) (fun _ hk => hk.2.2)))) _).trans (hHeld.2.2.2))))⟩ (fun hHeld => ?_)
                clear hK K
                refine pure_ (i := 20) (N := some 14) (v := ?_) (a' := ?_) #[true, true, true, true, true, true, true, true, true, true, true, true, true, true, true, true, true, true, true, true, true] rfl rfl (any_of HT_.out (by kernel_rfl)) (fun _ _ _ h => h) (Or.inl ⟨by rfl, ?_⟩) ?_ ?_
                rotate_left
                ·intro w'
                 go_simp
                 with_reducible rfl
                rotate_left
                ·simp only [Act.put, List.setIfInBounds_toArray, List.set_cons_zero, List.set_cons_succ, i64_w, i32_w]
                 rfl
                refine done_ (done_of HT_.out (by kernel_rfl)) ?_
                have n0_ : Aside0 (Kd.R k26 26 ((w31.setCell ⟨gb329, 0, none⟩ (.int .i64 t326)).setCell ⟨gb329, 1, none⟩ (.int .i64 t327)) w.heap.size (fun k_ => k_ ≠ gb329) u8 x8_2) := ⟨by (with_reducible repeat (first|apply Kd.R_alloc|apply Kd.R_drewN|apply Kd.R_drew));exact Kd.R_mono (Kd.R_far (p := ⟨gb329, 1, none⟩) (Kd.R_far (p := ⟨gb329, 0, none⟩) (Kd.R_mono HO_8.out (fun k_ hk => (⟨hk, hk⟩ : _ ∧ k_ ≠ gb329))) (fun _ hk => hk.2) (.int .i64 t326)) (fun _ hk => hk.2) (.int .i64 t327)) (fun _ hk => hk.1)⟩
                have n1_ : Aside0 (Kd.N (Kd.slice 3 (Kd.int .i64)) 23 ((w31.setCell ⟨gb329, 0, none⟩ (.int .i64 t326)).setCell ⟨gb329, 1, none⟩ (.int .i64 t327)) w.heap.size (fun k_ => some k_ ≠ (u8 : Value).ownBlock ∧ k_ ≠ gb329) (.slice (some ad320) t317.length co27) t317) := ⟨by (with_reducible repeat (first|apply Kd.N_alloc|apply Kd.N_drewN|apply Kd.N_drew));exact Kd.N_mono (Kd.N_far (p := ⟨gb329, 1, none⟩) (Kd.N_far (p := ⟨gb329, 0, none⟩) (Kd.N_mono HO_10.out (fun k_ hk => (⟨hk, hk.2⟩ : _ ∧ k_ ≠ gb329))) (fun _ hk => hk.2) (.int .i64 t326)) (fun _ hk => hk.2) (.int .i64 t327)) (fun _ hk => ⟨hk.1.1, hk.1.2⟩)⟩
                have n2_ : Aside0 (Kd.V (Kd.int .i64) 3 ((w31.setCell ⟨gb329, 0, none⟩ (.int .i64 t326)).setCell ⟨gb329, 1, none⟩ (.int .i64 t327)) w.heap.size (fun k_ => some k_ ≠ (u8 : Value).ownBlock ∧ some k_ ≠ (.slice (some ad320) t317.length co27 : Value).ownBlock ∧ k_ ≠ gb329) (.slice A320_0 (rd_L1 t317 x11_2).length c320_0) (rd_L1 t317 x11_2)) := ⟨by (with_reducible repeat (first|apply Kd.V_alloc|apply Kd.V_drewN|apply Kd.V_drew));exact Kd.V_mono (Kd.V_far (p := ⟨gb329, 1, none⟩) (Kd.V_far (p := ⟨gb329, 0, none⟩) (Kd.V_mono HL320_0.out (fun k_ hk => (⟨hk, hk.2.2⟩ : _ ∧ k_ ≠ gb329))) (fun _ hk => hk.2) (.int .i64 t326)) (fun _ hk => hk.2) (.int .i64 t327)) (fun _ hk => ⟨hk.1.2.1, ⟨hk.1.1, hk.1.2.2⟩⟩)⟩
                have n3_ : Aside0 (Kd.V (Kd.int .i64) 3 ((w31.setCell ⟨gb329, 0, none⟩ (.int .i64 t326)).setCell ⟨gb329, 1, none⟩ (.int .i64 t327)) w.heap.size (fun k_ => some k_ ≠ (u8 : Value).ownBlock ∧ some k_ ≠ (.slice (some ad320) t317.length co27 : Value).ownBlock ∧ k_ ≠ gb329) (.slice (some ad323) (rd_L1 t317 x11_2).length c322_0) (rd_L1 t317 x11_2)) := ⟨by (with_reducible repeat (first|apply Kd.V_alloc|apply Kd.V_drewN|apply Kd.V_drew));exact Kd.V_mono (Kd.V_far (p := ⟨gb329, 1, none⟩) (Kd.V_far (p := ⟨gb329, 0, none⟩) (Kd.V_mono HL322_0.out (fun k_ hk => (⟨hk, hk.2.2⟩ : _ ∧ k_ ≠ gb329))) (fun _ hk => hk.2) (.int .i64 t326)) (fun _ hk => hk.2) (.int .i64 t327)) (fun _ hk => ⟨hk.1.2.1, ⟨hk.1.1, hk.1.2.2⟩⟩)⟩
                have n4_ : Aside0 (Kd.V (Kd.int .i64) 3 ((w31.setCell ⟨gb329, 0, none⟩ (.int .i64 t326)).setCell ⟨gb329, 1, none⟩ (.int .i64 t327)) w.heap.size (fun k_ => some k_ ≠ (u8 : Value).ownBlock ∧ some k_ ≠ (.slice (some ad320) t317.length co27 : Value).ownBlock ∧ k_ ≠ gb329) (.slice (some ad323) (rd_L1 t317 x11_2).length c322_0) (rd_L1 t317 x11_2)) := ⟨by (with_reducible repeat (first|apply Kd.V_alloc|apply Kd.V_drewN|apply Kd.V_drew));exact Kd.V_mono (Kd.V_far (p := ⟨gb329, 1, none⟩) (Kd.V_far (p := ⟨gb329, 0, none⟩) (Kd.V_mono HL324_0.out (fun k_ hk => (⟨hk, hk.2.2⟩ : _ ∧ k_ ≠ gb329))) (fun _ hk => hk.2) (.int .i64 t326)) (fun _ hk => hk.2) (.int .i64 t327)) (fun _ hk => ⟨hk.1.2.1, ⟨hk.1.1, hk.1.2.2⟩⟩)⟩
                have n5_ : Aside0 (((w31.setCell ⟨gb329, 0, none⟩ (.int .i64 t326)).setCell ⟨gb329, 1, none⟩ (.int .i64 t327)).heap[gb329]? = some (.cells #[.int .i64 t326, .int .i64 t327] 26 (0, 0))) := ⟨by (with_reducible repeat (first|refine blk_drewN ?_ _|refine blk_drew ?_|refine blk_alloc ?_ _));refine blk_put (cs := #[.int .i64 t326, .int .i64 0]) ?_ 1 _ rfl;(with_reducible repeat (first|refine blk_drewN ?_ _|refine blk_drew ?_|refine blk_alloc ?_ _));refine blk_put (cs := #[.int .i64 0, .int .i64 0]) ?_ 0 _ rfl;(with_reducible repeat (first|refine blk_drewN ?_ _|refine blk_drew ?_|refine blk_alloc ?_ _));exact BK329.out⟩
                have n6_ : Aside0 (Below w.heap.size w ((w31.setCell ⟨gb329, 0, none⟩ (.int .i64 t326)).setCell ⟨gb329, 1, none⟩ (.int .i64 t327))) := ⟨by repeat (first|(with_reducible first|exact HB.out|apply below_alloc|apply pw_below_drewN|apply below_drew1|refine below_set ?_ GE329.out)|exact HB.out)⟩
                (try clear HO_8)
                (try clear HO_10)
                (try clear HL320_0)
                (try clear HL322_0)
                (try clear HL324_0)
                (try clear BK329)
                (try clear HB)
                generalize ((w31.setCell ⟨gb329, 0, none⟩ (.int .i64 t326)).setCell ⟨gb329, 1, none⟩ (.int .i64 t327)) = w34 at n0_ n1_ n2_ n3_ n4_ n5_ n6_ ⊢
                have HO_8 := n0_
                have HO_10 := n1_
                have HL320_0 := n2_
                have HL322_0 := n3_
                have HL324_0 := n4_
                have BK329 := n5_
                have HB := n6_
                clear n0_ n1_ n2_ n3_ n4_ n5_ n6_
                have hcz35_0 : w34.cell? ⟨gb329, 0, none⟩ = some (.int .i64 t326) := (blk_cell BK329.out 0).trans rfl
                have hcz35_1 : w34.cell? ⟨gb329, 1, none⟩ = some (.int .i64 t327) := (blk_cell BK329.out 1).trans rfl
                have hfz35_0 := blk_frozen BK329.out 0
                have hfz35_1 := blk_frozen BK329.out 1
                have p26 : 0 ≤ (t321 : Int) := of_decide_eq_true (by first|(with_reducible assumption)|assumption)
                have q26 : (t321 : Int) < ((x8_2.length : Int) : Int) := of_decide_eq_true (by first|(with_reducible assumption)|assumption)
                obtain ⟨go26, co26, eo26, gb26, gl26, cl26, HG26⟩ := Kd.R_form HO_8.out (by omega)
                (first|cases eo26|(injection eo26 with ea_ en_ ec_;(first|subst ea_|(injection ea_ with ea_;subst ea_));subst ec_;clear en_))
                have GB26 := Aside0.mk gb26
                have GG26 := Aside0.mk HG26
                clear gb26 gl26 HG26
                obtain ⟨ce26, hcl26, hM26, hcc26, hfr26⟩ := Kd.R_elem HO_8.out z26 (t321 : Int) p26 q26
                obtain rfl := k26_openM hM26
                have hx26_0 : w34.cell? ⟨go26, (t321 : Int).toNat * 2, none⟩ = some (.int .i64 ((rd_T26 x8_2 t321).f0)) := hcc26 0 _ rfl
                have hx26_1 : w34.cell? ⟨go26, (t321 : Int).toNat * 2 + 1, none⟩ = some (.int .i64 ((rd_T26 x8_2 t321).f1)) := hcc26 1 _ rfl
                have hf26_0 : w34.frozen? ⟨go26, (t321 : Int).toNat * 2, none⟩ = false := hfr26 0
                have hf26_1 : w34.frozen? ⟨go26, (t321 : Int).toNat * 2 + 1, none⟩ = false := hfr26 1
                clear hcl26 hcc26 hfr26;(try clear hM26)
                replace p26 := eq_true p26
                replace q26 := eq_true q26
                have HX36 := Aside0.mk (show Kd.R k26 26 w34 w.heap.size (fun k_ => k_ ≠ gb329) (.slice (some ⟨go26, 0, none⟩) x8_2.length co26) x8_2 from (by (with_reducible repeat (first|apply Kd.R_alloc|apply Kd.R_drewN|apply Kd.R_drew));exact HO_8.out))
                obtain ⟨ce36, hcl36, hM36, hcc36, hfr36⟩ := Kd.R_elem HX36.out z26 (t321 : Int) (of_decide_eq_true (by first|(with_reducible assumption)|assumption)) (by have h_ : (t321 : Int) < ((x8_2.length : Int) : Int) := of_decide_eq_true (by first|(with_reducible assumption)|assumption);first|exact h_|(have e_ := (Kd.R_reads' HO_8.out).1;omega)|simpa using h_)
                obtain rfl := k26_openM hM36
                have HP36 := Kd.R_seg HX36.out (t321 : Int) (of_decide_eq_true (by first|(with_reducible assumption)|assumption)) (by have h_ : (t321 : Int) < ((x8_2.length : Int) : Int) := of_decide_eq_true (by first|(with_reducible assumption)|assumption);first|exact h_|(have e_ := (Kd.R_reads' HO_8.out).1;omega)|simpa using h_) (seg := [.int .i64 t326, .int .i64 t327]) (j := 0) hcl36 hcc36 (show 2 ≤ 2 from by decide) (x' := (⟨t326, t327⟩ : S26)) (k26_mkM _ _ _ (⟨t326, t327⟩ : S26) ) (fun _ hk => hk)
                have hx36_0 := hcc36 0 _ rfl
                (try simp only [show (k26).sz = 2 from rfl, Nat.mul_one, Nat.add_zero] at hx36_0)
                have hf36_0 := hfr36 0
                (try simp only [show (k26).sz = 2 from rfl, Nat.mul_one, Nat.add_zero] at hf36_0)
                have hx36_1 := hcc36 1 _ rfl
                (try simp only [show (k26).sz = 2 from rfl, Nat.mul_one, Nat.add_zero] at hx36_1)
                have hf36_1 := hfr36 1
                (try simp only [show (k26).sz = 2 from rfl, Nat.mul_one, Nat.add_zero] at hf36_1)
                clear hcl36 hcc36 hfr36;(try clear hM36)
                try go_wp2_with (first|((with_reducible refine gate_store (t := 26) (p := 73) rfl ?_);refine store_event (t := 26) (p := 73) (v := ?vo_w37) (w1 := ((w34.setCell ⟨go26, (t321 : Int).toNat * 2, none⟩ (.int .i64 t326)).setCell ⟨go26, (t321 : Int).toNat * 2 + 1, none⟩ (.int .i64 t327))) ?hg ?ho ?hn ?hr ?_;(case ho => rfl);(case hg => rfl);(case hn => rfl);(case hr => first|(go_simp;done)|(go_simp;rfl));intro w37 hw;have hg : w34.grownBy w37 (some go26) := (by rw [hw];exact HP36.2);have hp_ : Kd.R k26 26 w37 w.heap.size (fun k_ => k_ ≠ gb329) (.slice (some ⟨go26, 0, none⟩) x8_2.length co26) y330 := (by rw [hw, Ny330.out];exact HP36.1);clear HP36;have n0_ := Aside0.mk (hp_);have n1_ := Aside0.mk (Kd.N_afterv (v := (.slice (some ⟨go26, 0, none⟩) x8_2.length co26)) (v1 := (.slice (some ⟨go26, 0, none⟩) x8_2.length co26)) (ok := (fun k_ => k_ ≠ gb329)) (by (with_reducible repeat (first|apply Kd.N_alloc|apply Kd.N_drewN|apply Kd.N_drew));exact Kd.N_mono HO_10.out (fun _ hk => ⟨hk.2, hk.1⟩)) hg (.inl rfl));have n2_ := Aside0.mk (Kd.V_afterv (v := (.slice (some ⟨go26, 0, none⟩) x8_2.length co26)) (v1 := (.slice (some ⟨go26, 0, none⟩) x8_2.length co26)) (ok := (fun k_ => some k_ ≠ (.slice (some ad320) t317.length co27 : Value).ownBlock ∧ k_ ≠ gb329)) (by (with_reducible repeat (first|apply Kd.V_alloc|apply Kd.V_drewN|apply Kd.V_drew));exact Kd.V_mono HL320_0.out (fun _ hk => ⟨⟨hk.2.1, hk.2.2⟩, hk.1⟩)) hg (.inl rfl));have n3_ := Aside0.mk (Kd.V_afterv (v := (.slice (some ⟨go26, 0, none⟩) x8_2.length co26)) (v1 := (.slice (some ⟨go26, 0, none⟩) x8_2.length co26)) (ok := (fun k_ => some k_ ≠ (.slice (some ad320) t317.length co27 : Value).ownBlock ∧ k_ ≠ gb329)) (by (with_reducible repeat (first|apply Kd.V_alloc|apply Kd.V_drewN|apply Kd.V_drew));exact Kd.V_mono HL322_0.out (fun _ hk => ⟨⟨hk.2.1, hk.2.2⟩, hk.1⟩)) hg (.inl rfl));have n4_ := Aside0.mk (Kd.V_afterv (v := (.slice (some ⟨go26, 0, none⟩) x8_2.length co26)) (v1 := (.slice (some ⟨go26, 0, none⟩) x8_2.length co26)) (ok := (fun k_ => some k_ ≠ (.slice (some ad320) t317.length co27 : Value).ownBlock ∧ k_ ≠ gb329)) (by (with_reducible repeat (first|apply Kd.V_alloc|apply Kd.V_drewN|apply Kd.V_drew));exact Kd.V_mono HL324_0.out (fun _ hk => ⟨⟨hk.2.1, hk.2.2⟩, hk.1⟩)) hg (.inl rfl));have n5_ := Aside0.mk (blk_grown (g := gb329) (o := .cells #[.int .i64 t326, .int .i64 t327] 26 (0, 0)) (by (with_reducible repeat (first|refine blk_drewN ?_ _|refine blk_drew ?_|refine blk_alloc ?_ _));exact BK329.out) hg (Kd.R_away HO_8.out (fun _ hk => hk)));have n6_ := Aside0.mk ((by rw [hw];exact below_set (below_set (HB.out) GB26.out) GB26.out : Below w.heap.size w w37));clear HO_8;clear HO_10;clear HL320_0;clear HL322_0;clear HL324_0;clear BK329;clear HB;have HO_8 := n0_;have HO_10 := n1_;have HL320_0 := n2_;have HL322_0 := n3_;have HL324_0 := n4_;have BK329 := n5_;have HB := n6_;clear n0_ n1_ n2_ n3_ n4_ n5_ n6_;clear hg hw hp_))
                go_roundg k2
                case measure => have := HK1.out;have := HK2.out;omega
                case rel => exact ⟨(y330), (wrap64 (x11_2 + 1)), (by first|rfl|(simp;done)|(simp [*];done)), H', ⟨by have := HK1.out;have := HK2.out;omega⟩, ⟨by (with_reducible repeat (first|apply Kd.R_alloc|apply Kd.R_drewN|apply Kd.R_drew));exact Kd.R_mono HO_8.out (fun _ hk => trivial)⟩, ⟨by (with_reducible repeat (first|apply Kd.N_alloc|apply Kd.N_drewN|apply Kd.N_drew));exact Kd.N_mono HO_10.out (fun _ hk => hk.2)⟩, ⟨by repeat (first|(with_reducible first|exact HB.out|apply below_alloc|apply pw_below_drewN|apply below_drew1|refine below_set ?_ GE329.out)|exact HB.out)⟩⟩
               ·rw [if_neg c25] at H
                exact absurd H (by simp)
              ·replace c24 := Bool.eq_false_iff.mpr c24
               subst c24
               have H1 : (some ((([] : List (S26))), false)) = some (r1, r2) := by rw [if_neg (show ¬ (false = true) by decide)] at H;exact H
               clear H
               have H := H1
               clear H1
               obtain ⟨y331, hy331⟩ : ∃ y_ : List (S26), y_ = (([] : List (S26))) := ⟨_, rfl⟩
               replace H : (some (y331, false)) = some (r1, r2) := by first|(rw [hy331];with_reducible exact H)|(have H2_ := (Option.bind_some _ _).symm.trans H;rw [hy331];with_reducible exact H2_)|(have H2_ := (Option.bind_some _ _).symm.trans H;with_reducible exact H2_)|with_reducible exact H|(rw [hy331];exact H)|exact H
               have Ny331 := Aside0.mk hy331
               clear hy331
               simp only [Option.some.injEq, Prod.mk.injEq] at H
               obtain ⟨rfl, rfl⟩ := H
               obtain ⟨Ao38, co38, eo38⟩ := Kd.N_slice HO_10.out
               subst eo38
               have p320 : 0 ≤ (x11_2 : Int) := of_decide_eq_true (by first|(with_reducible assumption)|assumption)
               have q320 : x11_2 < (t317.length : Int) := of_decide_eq_true (by first|(with_reducible assumption)|assumption)
               obtain ⟨ad320, A320_0, c320_0, e320, hx320_0, hl320_0, hi320_0⟩ := at_L1 (Kd.N_reads' HO_10.out).2.2 x11_2 p320 q320
               cases e320
               obtain ⟨ce320, hce320, hMe320, hcc320⟩ := Kd.N_get HO_10.out [] x11_2 p320 (by first|exact q320|exact of_decide_eq_true (by first|(with_reducible assumption)|assumption)|(have e_ := (Kd.N_reads' HO_10.out).1;omega))
               obtain ⟨ua320_0, uc320_0, rfl, ul320_0, ge320_0⟩ := Kd.FK_slice_open hMe320
               have hv320_0 := hcc320 0 _ rfl
               rw [Nat.add_zero, show ((Kd.slice 3 (Kd.int .i64))).sz = 1 from rfl, Nat.mul_one] at hv320_0
               replace hv320_0 := Option.some.inj (hv320_0.symm.trans hx320_0)
               injection hv320_0 with hva_ hvn_ hvc_
               rw [hva_] at ge320_0
               rw [hvc_] at ul320_0
               have HL320_0 := Aside0.mk (show Kd.V (Kd.int .i64) 3 _ w.heap.size _ _ (rd_L1 t317 x11_2) from Kd.V_mk ul320_0 ge320_0)
               clear hva_ hvn_ hvc_ ge320_0 ul320_0
               clear hcc320 hce320
               have HR320_0 := Aside0.mk hi320_0
               have HC320_0 := Aside0.mk hl320_0
               clear hi320_0 hl320_0
               replace p320 := eq_true p320
               replace q320 := eq_true q320
               try go_wp2_with (first|((with_reducible refine gate_callee (f := 69) rfl ?_);refine goesL_ (some 45) rfl rfl Try.func69 (by kernel_rfl) rfl #[.slice A320_0 (rd_L1 t317 x11_2).length c320_0] rfl (by (try simp only [List.map_toArray, List.map_cons, List.map_nil]);first|done|rfl|(simp only [List.length_drop, List.length_take];rfl)) ?_;(with_reducible refine (spec_l5Lead.calls k2 _ _ (rd_L1 t317 x11_2) t321 _ ?side1 ?side2 A16.out).mono ?_);(case side1 => repeat (first|exact (by repeat (first|(with_reducible exact HR320_0.out)|(with_reducible refine Kd.C_alloc ?_ _)|(with_reducible refine Kd.C_drewN ?_ _)|(with_reducible refine Kd.C_drew ?_)|exact HR320_0.out))|(with_reducible refine Kd.C_alloc ?_ _)|(with_reducible refine Kd.C_drewN ?_ _)|(with_reducible refine Kd.C_drew ?_)));(case side2 => exact HC320_0.out);rintro e w' ⟨rfl, ⟨nd, rfl⟩⟩;refine ⟨_, rfl, ?_⟩;(try (rw [drewN_self wr];generalize hq_ : World.drewN wr _ = wr;have n0_ : Aside0 (Kd.V (Kd.int .i64) 3 wr w.heap.size (fun k_ => some k_ ≠ (.slice (some ad320) t317.length co38 : Value).ownBlock ∧ some k_ ≠ (u8 : Value).ownBlock) (.slice A320_0 (rd_L1 t317 x11_2).length c320_0) (rd_L1 t317 x11_2)) := ⟨by rw [← hq_];exact (by (with_reducible repeat (first|apply Kd.V_alloc|apply Kd.V_drewN|apply Kd.V_drew));exact Kd.V_mono HL320_0.out (fun _ hk => ⟨hk.2, hk.1⟩))⟩;have n1_ : Aside0 (Kd.N (Kd.slice 3 (Kd.int .i64)) 23 wr w.heap.size (fun k_ => some k_ ≠ (u8 : Value).ownBlock) (.slice (some ad320) t317.length co38) t317) := ⟨by rw [← hq_];exact (by (with_reducible repeat (first|apply Kd.N_alloc|apply Kd.N_drewN|apply Kd.N_drew));exact HO_10.out)⟩;have n2_ : Aside0 (Kd.R k26 26 wr w.heap.size (fun _ => True) u8 x8_2) := ⟨by rw [← hq_];exact (by (with_reducible repeat (first|apply Kd.R_alloc|apply Kd.R_drewN|apply Kd.R_drew));exact HO_8.out)⟩;have n3_ : Aside0 (Below w.heap.size w wr) := ⟨by rw [← hq_];exact (by repeat first|(with_reducible first|exact HB.out|apply below_alloc|apply pw_below_drewN|apply below_drew1)|exact HB.out)⟩;have n4_ : Aside0 (Kd.C (Kd.int .i64) wr A320_0 (rd_L1 t317 x11_2).length (rd_L1 t317 x11_2)) := ⟨by rw [← hq_];exact (by repeat (first|(with_reducible exact HR320_0.out)|(with_reducible refine Kd.C_alloc ?_ _)|(with_reducible refine Kd.C_drewN ?_ _)|(with_reducible refine Kd.C_drew ?_)|exact HR320_0.out))⟩;clear HL320_0 HO_10 HO_8 HB HR320_0 hq_;have HL320_0 := n0_;have HO_10 := n1_;have HO_8 := n2_;have HB := n3_;have HR320_0 := n4_;clear n0_ n1_ n2_ n3_ n4_))))
               have n0_ := Aside0.mk (Kd.R_drew HO_8.out)
               have n1_ := Aside0.mk (Kd.N_drew HO_10.out)
               have n2_ := Aside0.mk (Kd.V_drew HL320_0.out)
               have n3_ := Aside0.mk (Kd.C_drew HR320_0.out)
               have n4_ := Aside0.mk (below_drew1 HB.out)
               clear HO_8
               clear HO_10
               clear HL320_0
               clear HR320_0
               clear HB
               have HO_8 := n0_
               have HO_10 := n1_
               have HL320_0 := n2_
               have HR320_0 := n3_
               have HB := n4_
               clear n0_ n1_ n2_ n3_ n4_
               have p322 : 0 ≤ (x11_2 : Int) := of_decide_eq_true (by first|(with_reducible assumption)|assumption)
               have q322 : x11_2 < (t317.length : Int) := of_decide_eq_true (by first|(with_reducible assumption)|assumption)
               obtain ⟨ad322, A322_0, c322_0, e322, hx322_0, hl322_0, hi322_0⟩ := at_L1 (Kd.N_reads' HO_10.out).2.2 x11_2 p322 q322
               obtain rfl : ad320 = ad322 := (by injection e322)
               obtain ⟨ce322, hce322, hMe322, hcc322⟩ := Kd.N_get HO_10.out [] x11_2 p322 (by first|exact q322|exact of_decide_eq_true (by first|(with_reducible assumption)|assumption)|(have e_ := (Kd.N_reads' HO_10.out).1;omega))
               obtain ⟨ua322_0, uc322_0, rfl, ul322_0, ge322_0⟩ := Kd.FK_slice_open hMe322
               have hv322_0 := hcc322 0 _ rfl
               rw [Nat.add_zero, show ((Kd.slice 3 (Kd.int .i64))).sz = 1 from rfl, Nat.mul_one] at hv322_0
               replace hv322_0 := Option.some.inj (hv322_0.symm.trans hx322_0)
               injection hv322_0 with hva_ hvn_ hvc_
               rw [hva_] at ge322_0
               rw [hvc_] at ul322_0
               have HL322_0 := Aside0.mk (show Kd.V (Kd.int .i64) 3 _ w.heap.size _ _ (rd_L1 t317 x11_2) from Kd.V_mk ul322_0 ge322_0)
               clear hva_ hvn_ hvc_ ge322_0 ul322_0
               clear hcc322 hce322
               have HR322_0 := Aside0.mk hi322_0
               have HC322_0 := Aside0.mk hl322_0
               clear hi322_0 hl322_0
               replace p322 := eq_true p322
               replace q322 := eq_true q322
               have p323 : 0 ≤ (a2 : Int) := of_decide_eq_true (by first|(with_reducible assumption)|assumption)
               have q323 : a2 < ((rd_L1 t317 x11_2).length : Int) := of_decide_eq_true (by first|(with_reducible assumption)|assumption)
               obtain ⟨ad323, e323, hx323_0⟩ := Kd.at_int (by repeat (first|(with_reducible exact HR322_0.out)|(with_reducible refine Kd.C_alloc ?_ _)|(with_reducible refine Kd.C_drewN ?_ _)|(with_reducible refine Kd.C_drew ?_)|exact HR322_0.out)) a2 p323 q323
               cases e323
               replace p323 := eq_true p323
               replace q323 := eq_true q323
               have p324 : 0 ≤ (x11_2 : Int) := of_decide_eq_true (by first|(with_reducible assumption)|assumption)
               have q324 : x11_2 < (t317.length : Int) := of_decide_eq_true (by first|(with_reducible assumption)|assumption)
               obtain ⟨ad324, A324_0, c324_0, e324, hx324_0, hl324_0, hi324_0⟩ := at_L1 (Kd.N_reads' HO_10.out).2.2 x11_2 p324 q324
               obtain rfl : ad320 = ad324 := (by injection e324)
               obtain ⟨ce324, hce324, hMe324, hcc324⟩ := Kd.N_get HO_10.out [] x11_2 p324 (by first|exact q324|exact of_decide_eq_true (by first|(with_reducible assumption)|assumption)|(have e_ := (Kd.N_reads' HO_10.out).1;omega))
               obtain ⟨ua324_0, uc324_0, rfl, ul324_0, ge324_0⟩ := Kd.FK_slice_open hMe324
               have hv324_0 := hcc324 0 _ rfl
               rw [Nat.add_zero, show ((Kd.slice 3 (Kd.int .i64))).sz = 1 from rfl, Nat.mul_one] at hv324_0
               replace hv324_0 := Option.some.inj (hv324_0.symm.trans hx324_0)
               injection hv324_0 with hva_ hvn_ hvc_
               rw [hva_] at ge324_0
               rw [hvc_] at ul324_0
               have HL324_0 := Aside0.mk (show Kd.V (Kd.int .i64) 3 _ w.heap.size _ _ (rd_L1 t317 x11_2) from Kd.V_mk ul324_0 ge324_0)
               clear hva_ hvn_ hvc_ ge324_0 ul324_0
               clear hcc324 hce324
               have HR324_0 := Aside0.mk hi324_0
               have HC324_0 := Aside0.mk hl324_0
               clear hi324_0 hl324_0
               replace p324 := eq_true p324
               replace q324 := eq_true q324
               have ea_ := Option.some.inj (hx322_0.symm.trans hx324_0)
               injection ea_ with ea_ en_ ec_
               subst ea_
               subst ec_
               clear en_
               have p325 : 0 ≤ (t321 : Int) := of_decide_eq_true (by first|(with_reducible assumption)|assumption)
               have q325 : t321 < ((rd_L1 t317 x11_2).length : Int) := of_decide_eq_true (by first|(with_reducible assumption)|assumption)
               obtain ⟨ad325, e325, hx325_0⟩ := Kd.at_int (by repeat (first|(with_reducible exact HR324_0.out)|(with_reducible refine Kd.C_alloc ?_ _)|(with_reducible refine Kd.C_drewN ?_ _)|(with_reducible refine Kd.C_drew ?_)|exact HR324_0.out)) t321 p325 q325
               cases e325
               replace p325 := eq_true p325
               replace q325 := eq_true q325
               refine start_ (n := 21) (S := fun w' => w'.cell? (ad320.add (x11_2).toNat) = some (.slice (some ad323) (rd_L1 t317 x11_2).length c322_0) ∧ w'.cell? (ad323.add (a2).toNat) = some (.int .i64 (rd (rd_L1 t317 x11_2) a2)) ∧ w'.cell? (ad320.add (x11_2).toNat) = some (.slice (some ad323) (rd_L1 t317 x11_2).length c322_0) ∧ w'.cell? (ad323.add (t321).toNat) = some (.int .i64 (rd (rd_L1 t317 x11_2) t321))) (ds := []) #[false, false, false, false, false, false, false, false, false, false, false, false, false, false, false, false, false, false, false, false, false] (by kernel_rfl) rfl rfl ⟨hx322_0, hx323_0, hx324_0, hx325_0⟩ (fun hHeld => ?_);refine with_tabW spec_SolutionOf.tab14 spec_SolutionOf.bits14 (fun HT_ HW_ => ?_)
               generalize wr.drew = w39 at HO_8 HO_10 HL320_0 HR320_0 HB HL322_0 HL324_0 HR322_0 HR324_0 hx322_0 hx323_0 hx324_0 hx325_0 hHeld ⊢
               refine pure_ (i := 0) (N := some 50) (v := ?_) (a' := ?_) #[true, false, false, false, false, false, false, false, false, false, false, false, false, false, false, false, false, false, false, false, false] rfl rfl (any_of HT_.out (by kernel_rfl)) (fun _ _ _ h => h) (Or.inl ⟨by rfl, ?_⟩) ?_ ?_
               rotate_left
               ·intro w'
                go_simp
                with_reducible rfl
               rotate_left
               ·simp only [Act.put, List.setIfInBounds_toArray, List.set_cons_zero, List.set_cons_succ, i64_w, i32_w]
                rfl
               refine pure_ (i := 1) (N := some 51) (v := ?_) (a' := ?_) #[true, true, false, false, false, false, false, false, false, false, false, false, false, false, false, false, false, false, false, false, false] rfl rfl (any_of HT_.out (by kernel_rfl)) (fun _ _ _ h => h) (Or.inl ⟨by rfl, ?_⟩) ?_ ?_
               rotate_left
               ·intro w'
                go_simp
                with_reducible rfl
               rotate_left
               ·simp only [Act.put, List.setIfInBounds_toArray, List.set_cons_zero, List.set_cons_succ, i64_w, i32_w]
                rfl
               refine pure_ (i := 2) (N := some 52) (v := ?_) (a' := ?_) #[true, true, true, false, false, false, false, false, false, false, false, false, false, false, false, false, false, false, false, false, false] rfl rfl (any_of HT_.out (by kernel_rfl)) (fun _ _ _ h => h) (Or.inl ⟨by rfl, ?_⟩) ?_ ?_
               rotate_left
               ·intro w'
                go_simp
                with_reducible rfl
               rotate_left
               ·simp only [Act.put, List.setIfInBounds_toArray, List.set_cons_zero, List.set_cons_succ, i64_w, i32_w]
                rfl
               refine pure_ (i := 4) (N := some 54) (v := ?_) (a' := ?_) #[true, true, true, false, true, false, false, false, false, false, false, false, false, false, false, false, false, false, false, false, false] rfl rfl (any_of HT_.out (by kernel_rfl)) (fun _ _ _ h => h) (Or.inl ⟨by rfl, ?_⟩) ?_ ?_
               rotate_left
               ·intro w'
                go_simp
                with_reducible rfl
               rotate_left
               ·simp only [Act.put, List.setIfInBounds_toArray, List.set_cons_zero, List.set_cons_succ, i64_w, i32_w]
                rfl
               refine pure_ (i := 7) (N := some 57) (v := ?_) (a' := ?_) #[true, true, true, false, true, false, false, true, false, false, false, false, false, false, false, false, false, false, false, false, false] rfl rfl (any_of HT_.out (by kernel_rfl)) (fun _ _ _ h => h) (Or.inl ⟨by rfl, ?_⟩) ?_ ?_
               rotate_left
               ·intro w'
                go_simp
                with_reducible rfl
               rotate_left
               ·simp only [Act.put, List.setIfInBounds_toArray, List.set_cons_zero, List.set_cons_succ, i64_w, i32_w]
                rfl
               refine pure_ (i := 8) (N := some 58) (v := ?_) (a' := ?_) #[true, true, true, false, true, false, false, true, true, false, false, false, false, false, false, false, false, false, false, false, false] rfl rfl (any_of HT_.out (by kernel_rfl)) (fun _ _ _ h => h) (Or.inl ⟨by rfl, ?_⟩) ?_ ?_
               rotate_left
               ·intro w'
                go_simp
                with_reducible rfl
               rotate_left
               ·simp only [Act.put, List.setIfInBounds_toArray, List.set_cons_zero, List.set_cons_succ, i64_w, i32_w]
                rfl
               refine pure_ (i := 9) (N := some 59) (v := ?_) (a' := ?_) #[true, true, true, false, true, false, false, true, true, true, false, false, false, false, false, false, false, false, false, false, false] rfl rfl (any_of HT_.out (by kernel_rfl)) (fun _ _ _ h => h) (Or.inl ⟨by rfl, ?_⟩) ?_ ?_
               rotate_left
               ·intro w'
                go_simp
                with_reducible rfl
               rotate_left
               ·simp only [Act.put, List.setIfInBounds_toArray, List.set_cons_zero, List.set_cons_succ, i64_w, i32_w]
                rfl
               refine pure_ (i := 11) (N := some 61) (v := ?_) (a' := ?_) #[true, true, true, false, true, false, false, true, true, true, false, true, false, false, false, false, false, false, false, false, false] rfl rfl (any_of HT_.out (by kernel_rfl)) (fun _ _ _ h => h) (Or.inl ⟨by rfl, ?_⟩) ?_ ?_
               rotate_left
               ·intro w'
                go_simp
                with_reducible rfl
               rotate_left
               ·simp only [Act.put, List.setIfInBounds_toArray, List.set_cons_zero, List.set_cons_succ, i64_w, i32_w]
                rfl
               refine take_ (i := 3) (N := some 53) (v := ?_) (a' := ?_) #[true, true, true, true, true, false, false, true, true, true, false, true, false, false, false, false, false, false, false, false, false] rfl rfl (take_ofW HT_.out HW_.out (by kernel_rfl)) (fun _ _ _ h => h) (Or.inl ⟨by rfl, ?_⟩) hHeld ?_ ?_
               rotate_left
               ·rintro w' ⟨s0, s1, s2, s3⟩
                go_simp
                with_reducible rfl
               rotate_left
               ·simp only [Act.put, List.setIfInBounds_toArray, List.set_cons_zero, List.set_cons_succ, i64_w, i32_w]
                rfl
               refine pure_ (i := 5) (N := some 55) (v := ?_) (a' := ?_) #[true, true, true, true, true, true, false, true, true, true, false, true, false, false, false, false, false, false, false, false, false] rfl rfl (any_of HT_.out (by kernel_rfl)) (fun _ _ _ h => h) (Or.inl ⟨by rfl, ?_⟩) ?_ ?_
               rotate_left
               ·intro w'
                go_simp
                with_reducible rfl
               rotate_left
               ·simp only [Act.put, List.setIfInBounds_toArray, List.set_cons_zero, List.set_cons_succ, i64_w, i32_w]
                rfl
               refine take_ (i := 6) (N := some 56) (v := ?_) (a' := ?_) #[true, true, true, true, true, true, true, true, true, true, false, true, false, false, false, false, false, false, false, false, false] rfl rfl (take_ofW HT_.out HW_.out (by kernel_rfl)) (fun _ _ _ h => h) (Or.inl ⟨by rfl, ?_⟩) hHeld ?_ ?_
               rotate_left
               ·rintro w' ⟨s0, s1, s2, s3⟩
                go_simp
                with_reducible rfl
               rotate_left
               ·simp only [Act.put, List.setIfInBounds_toArray, List.set_cons_zero, List.set_cons_succ, i64_w, i32_w]
                rfl
               refine take_ (i := 10) (N := some 60) (v := ?_) (a' := ?_) #[true, true, true, true, true, true, true, true, true, true, true, true, false, false, false, false, false, false, false, false, false] rfl rfl (take_ofW HT_.out HW_.out (by kernel_rfl)) (fun _ _ _ h => h) (Or.inl ⟨by rfl, ?_⟩) hHeld ?_ ?_
               rotate_left
               ·rintro w' ⟨s0, s1, s2, s3⟩
                go_simp
                with_reducible rfl
               rotate_left
               ·simp only [Act.put, List.setIfInBounds_toArray, List.set_cons_zero, List.set_cons_succ, i64_w, i32_w]
                rfl
               refine pure_ (i := 12) (N := some 62) (v := ?_) (a' := ?_) #[true, true, true, true, true, true, true, true, true, true, true, true, true, false, false, false, false, false, false, false, false] rfl rfl (any_of HT_.out (by kernel_rfl)) (fun _ _ _ h => h) (Or.inl ⟨by rfl, ?_⟩) ?_ ?_
               rotate_left
               ·intro w'
                go_simp
                with_reducible rfl
               rotate_left
               ·simp only [Act.put, List.setIfInBounds_toArray, List.set_cons_zero, List.set_cons_succ, i64_w, i32_w]
                rfl
               refine take_ (i := 13) (N := some 63) (v := ?_) (a' := ?_) #[true, true, true, true, true, true, true, true, true, true, true, true, true, true, false, false, false, false, false, false, false] rfl rfl (take_ofW HT_.out HW_.out (by kernel_rfl)) (fun _ _ _ h => h) (Or.inl ⟨by rfl, ?_⟩) hHeld ?_ ?_
               rotate_left
               ·rintro w' ⟨s0, s1, s2, s3⟩
                go_simp
                with_reducible rfl
               rotate_left
               ·simp only [Act.put, List.setIfInBounds_toArray, List.set_cons_zero, List.set_cons_succ, i64_w, i32_w]
                rfl
               refine join_ (σ := Nat) 2 #[true, true, true, true, true, true, true, true, true, true, true, true, true, true, true, true, true, true, true, false, false] (fun s_ => [(64, .tuple #[.agg #[.int .i64 t326, .int .i64 t327], .bool false]), (13, .pointer (some ⟨s_, 0, none⟩)), (49, .tuple #[.agg #[.int .i64 t326, .int .i64 t327], .bool false]), (65, .agg #[.int .i64 t326, .int .i64 t327]), (66, .bool false)]) (fun s_ w' => (w'.cell? (ad320.add (x11_2).toNat) = some (.slice (some ad323) (rd_L1 t317 x11_2).length c322_0) ∧ w'.cell? (ad323.add (a2).toNat) = some (.int .i64 (rd (rd_L1 t317 x11_2) a2)) ∧ w'.cell? (ad320.add (x11_2).toNat) = some (.slice (some ad323) (rd_L1 t317 x11_2).length c322_0) ∧ w'.cell? (ad323.add (t321).toNat) = some (.int .i64 (rd (rd_L1 t317 x11_2) t321))) ∧ (Kd.V (Kd.int .i64) 3 w' w.heap.size (fun k_ => some k_ ≠ (.slice (some ad320) t317.length co38 : Value).ownBlock ∧ some k_ ≠ (u8 : Value).ownBlock ∧ k_ ≠ s_) (.slice A320_0 (rd_L1 t317 x11_2).length c320_0) (rd_L1 t317 x11_2)) ∧ (Kd.V (Kd.int .i64) 3 w' w.heap.size (fun k_ => some k_ ≠ (.slice (some ad320) t317.length co38 : Value).ownBlock ∧ some k_ ≠ (u8 : Value).ownBlock ∧ k_ ≠ s_) (.slice (some ad323) (rd_L1 t317 x11_2).length c322_0) (rd_L1 t317 x11_2)) ∧ (Kd.V (Kd.int .i64) 3 w' w.heap.size (fun k_ => some k_ ≠ (.slice (some ad320) t317.length co38 : Value).ownBlock ∧ some k_ ≠ (u8 : Value).ownBlock ∧ k_ ≠ s_) (.slice (some ad323) (rd_L1 t317 x11_2).length c322_0) (rd_L1 t317 x11_2)) ∧ (Kd.N (Kd.slice 3 (Kd.int .i64)) 23 w' w.heap.size (fun k_ => some k_ ≠ (u8 : Value).ownBlock ∧ k_ ≠ s_) (.slice (some ad320) t317.length co38) t317) ∧ (Kd.R k26 26 w' w.heap.size (fun k_ => k_ ≠ s_) u8 x8_2) ∧ (w'.heap[s_]? = some (.cells #[.int .i64 0, .int .i64 0] 26 (0, 0))) ∧ (w.heap.size ≤ s_) ∧ (w.heap.size ≤ s_) ∧ (Below w.heap.size w w')) ?_ ?_
               rotate_left
               ·intro hCont
                refine two_ (i := 14) (j := 18) (Ni := some 64) (Nj := some 13) #[true, true, true, true, true, true, true, true, true, true, true, true, true, true, true, false, false, false, false, false, false] #[true, true, true, true, true, true, true, true, true, true, true, true, true, true, false, false, false, false, true, false, false] rfl rfl rfl rfl (two_of HT_.out (by kernel_rfl)) (by decide) (by decide) (fun K hK => ?_) (fun K hK => ?_)
                ·skip
                 refine goes_ Try.func70 (by kernel_rfl) rfl #[.int .i64 (rd (rd_L1 t317 x11_2) a2), .int .i64 (rd (rd_L1 t317 x11_2) t321)] (by rfl) rfl rfl (by (try simp only [List.map_toArray, List.map_cons, List.map_nil]);first|done|rfl|(simp only [List.length_drop, List.length_take];rfl)) ?_
                 with_reducible refine (spec_l4Make.calls k2 (rd (rd_L1 t317 x11_2) a2) (rd (rd_L1 t317 x11_2) t321) t326 t327 false _ A23.out).mono ?_
                 rintro e w40 ⟨rfl, hb⟩
                 have HS0_ := (hb.cell (World.block_lt_of_cell? _ _ (hHeld.1))).trans (hHeld.1)
                 have HS1_ := (hb.cell (World.block_lt_of_cell? _ _ (hHeld.2.1))).trans (hHeld.2.1)
                 have HS2_ := (hb.cell (World.block_lt_of_cell? _ _ (hHeld.2.2.1))).trans (hHeld.2.2.1)
                 have HS3_ := (hb.cell (World.block_lt_of_cell? _ _ (hHeld.2.2.2))).trans (hHeld.2.2.2)
                 refine ⟨_, rfl, ?_⟩
                 have n0_ := Aside0.mk (Kd.R_below (by (with_reducible repeat (first|apply Kd.R_alloc|apply Kd.R_drewN|apply Kd.R_drew));exact HO_8.out) hb)
                 have n1_ := Aside0.mk (Kd.N_below (by (with_reducible repeat (first|apply Kd.N_alloc|apply Kd.N_drewN|apply Kd.N_drew));exact HO_10.out) hb)
                 have n2_ := Aside0.mk (Kd.V_below (by (with_reducible repeat (first|apply Kd.V_alloc|apply Kd.V_drewN|apply Kd.V_drew));exact HL320_0.out) hb)
                 have n3_ := Aside0.mk (Kd.V_below (by (with_reducible repeat (first|apply Kd.V_alloc|apply Kd.V_drewN|apply Kd.V_drew));exact HL322_0.out) hb)
                 have n4_ := Aside0.mk (Kd.V_below (by (with_reducible repeat (first|apply Kd.V_alloc|apply Kd.V_drewN|apply Kd.V_drew));exact HL324_0.out) hb)
                 have n5_ := Aside0.mk (Kd.C_below (by repeat (first|(with_reducible exact HR320_0.out)|(with_reducible refine Kd.C_alloc ?_ _)|(with_reducible refine Kd.C_drewN ?_ _)|(with_reducible refine Kd.C_drew ?_)|exact HR320_0.out)) hb)
                 have n6_ := Aside0.mk (Kd.C_below (by repeat (first|(with_reducible exact HR322_0.out)|(with_reducible refine Kd.C_alloc ?_ _)|(with_reducible refine Kd.C_drewN ?_ _)|(with_reducible refine Kd.C_drew ?_)|exact HR322_0.out)) hb)
                 have n7_ := Aside0.mk (Kd.C_below (by repeat (first|(with_reducible exact HR324_0.out)|(with_reducible refine Kd.C_alloc ?_ _)|(with_reducible refine Kd.C_drewN ?_ _)|(with_reducible refine Kd.C_drew ?_)|exact HR324_0.out)) hb)
                 have n8_ := Aside0.mk (below_step (by repeat first|(with_reducible first|exact HB.out|apply below_alloc|apply pw_below_drewN|apply below_drew1)|exact HB.out) hb)
                 clear HO_8
                 clear HO_10
                 clear HL320_0
                 clear HL322_0
                 clear HL324_0
                 clear HR320_0
                 clear HR322_0
                 clear HR324_0
                 clear HB
                 have HO_8 := n0_
                 have HO_10 := n1_
                 have HL320_0 := n2_
                 have HL322_0 := n3_
                 have HL324_0 := n4_
                 have HR320_0 := n5_
                 have HR322_0 := n6_
                 have HR324_0 := n7_
                 have HB := n8_
                 clear n0_ n1_ n2_ n3_ n4_ n5_ n6_ n7_ n8_
                 (try clear hb)
                 (try clear hb2)
                 (try clear hk)
                 (try clear hi)
                 refine hK.out _ _ ⟨HS0_, HS1_, HS2_, HS3_⟩ (fun hHeld => ?_)
                 clear hK K
                 refine norm_ (a' := ?_) ?_ ?_
                 rotate_left
                 ·show Act.put _ (some 64) _ = _
                  simp only [Act.put, List.setIfInBounds_toArray, List.set_cons_zero, List.set_cons_succ, i64_w, i32_w]
                  rfl
                 refine pure_ (i := 15) (N := some 49) (v := ?_) (a' := ?_) #[true, true, true, true, true, true, true, true, true, true, true, true, true, true, true, true, false, false, false, false, false] rfl rfl (any_of HT_.out (by kernel_rfl)) (fun _ _ _ h => h) (Or.inl ⟨by rfl, ?_⟩) ?_ ?_
                 rotate_left
                 ·intro w'
                  go_simp
                  with_reducible rfl
                 rotate_left
                 ·simp only [Act.put, List.setIfInBounds_toArray, List.set_cons_zero, List.set_cons_succ, i64_w, i32_w]
                  rfl
                 refine pure_ (i := 16) (N := some 65) (v := ?_) (a' := ?_) #[true, true, true, true, true, true, true, true, true, true, true, true, true, true, true, true, true, false, false, false, false] rfl rfl (any_of HT_.out (by kernel_rfl)) (fun _ _ _ h => h) (Or.inl ⟨by rfl, ?_⟩) ?_ ?_
                 rotate_left
                 ·intro w'
                  go_simp
                  with_reducible rfl
                 rotate_left
                 ·simp only [Act.put, List.setIfInBounds_toArray, List.set_cons_zero, List.set_cons_succ, i64_w, i32_w]
                  rfl
                 refine pure_ (i := 17) (N := some 66) (v := ?_) (a' := ?_) #[true, true, true, true, true, true, true, true, true, true, true, true, true, true, true, true, true, true, false, false, false] rfl rfl (any_of HT_.out (by kernel_rfl)) (fun _ _ _ h => h) (Or.inl ⟨by rfl, ?_⟩) ?_ ?_
                 rotate_left
                 ·intro w'
                  go_simp
                  with_reducible rfl
                 rotate_left
                 ·simp only [Act.put, List.setIfInBounds_toArray, List.set_cons_zero, List.set_cons_succ, i64_w, i32_w]
                  rfl
                 refine one_ (i := 18) (N := some 13) #[true, true, true, true, true, true, true, true, true, true, true, true, true, true, true, true, true, true, true, false, false] rfl rfl (one_of HT_.out (by kernel_rfl)) (by decide) (fun K hK => ?_)
                 refine box_step ?hg (N := 13) ?hd (cs := #[.int .i64 0, .int .i64 0]) (t := 26) ?hr ?_;(case hd => rfl);(case hg => rfl);(case hr => first|(go_simp;done)|(go_simp;rfl))
                 intro gb329 hg w41 hbox hb
                 have HS0_ := (hb.cell (World.block_lt_of_cell? _ _ (hHeld.1))).trans (hHeld.1)
                 have HS1_ := (hb.cell (World.block_lt_of_cell? _ _ (hHeld.2.1))).trans (hHeld.2.1)
                 have HS2_ := (hb.cell (World.block_lt_of_cell? _ _ (hHeld.2.2.1))).trans (hHeld.2.2.1)
                 have HS3_ := (hb.cell (World.block_lt_of_cell? _ _ (hHeld.2.2.2))).trans (hHeld.2.2.2)
                 have n0_ := Aside0.mk (Kd.R_below (Kd.R_elderB (by (with_reducible repeat (first|apply Kd.R_alloc|apply Kd.R_drewN|apply Kd.R_drew));exact HO_8.out) gb329 (Nat.le_of_eq hg.symm)) hb)
                 have n1_ := Aside0.mk (Kd.N_below (Kd.N_elderB (by (with_reducible repeat (first|apply Kd.N_alloc|apply Kd.N_drewN|apply Kd.N_drew));exact HO_10.out) gb329 (Nat.le_of_eq hg.symm)) hb)
                 have n2_ := Aside0.mk (Kd.V_below (Kd.V_elderB (by (with_reducible repeat (first|apply Kd.V_alloc|apply Kd.V_drewN|apply Kd.V_drew));exact HL320_0.out) gb329 (Nat.le_of_eq hg.symm)) hb)
                 have n3_ := Aside0.mk (Kd.V_below (Kd.V_elderB (by (with_reducible repeat (first|apply Kd.V_alloc|apply Kd.V_drewN|apply Kd.V_drew));exact HL322_0.out) gb329 (Nat.le_of_eq hg.symm)) hb)
                 have n4_ := Aside0.mk (Kd.V_below (Kd.V_elderB (by (with_reducible repeat (first|apply Kd.V_alloc|apply Kd.V_drewN|apply Kd.V_drew));exact HL324_0.out) gb329 (Nat.le_of_eq hg.symm)) hb)
                 have n5_ := Aside0.mk (Kd.C_below (by repeat (first|(with_reducible exact HR320_0.out)|(with_reducible refine Kd.C_alloc ?_ _)|(with_reducible refine Kd.C_drewN ?_ _)|(with_reducible refine Kd.C_drew ?_)|exact HR320_0.out)) hb)
                 have n6_ := Aside0.mk (Kd.C_below (by repeat (first|(with_reducible exact HR322_0.out)|(with_reducible refine Kd.C_alloc ?_ _)|(with_reducible refine Kd.C_drewN ?_ _)|(with_reducible refine Kd.C_drew ?_)|exact HR322_0.out)) hb)
                 have n7_ := Aside0.mk (Kd.C_below (by repeat (first|(with_reducible exact HR324_0.out)|(with_reducible refine Kd.C_alloc ?_ _)|(with_reducible refine Kd.C_drewN ?_ _)|(with_reducible refine Kd.C_drew ?_)|exact HR324_0.out)) hb)
                 have n8_ := Aside0.mk (below_step (by repeat first|(with_reducible first|exact HB.out|apply below_alloc|apply pw_below_drewN|apply below_drew1)|exact HB.out) hb)
                 have n9_ := Aside0.mk (hbox)
                 have n10_ := Aside0.mk ((by rw [hg];exact (below_size (by repeat first|(with_reducible first|exact HB.out|apply below_alloc|apply pw_below_drewN|apply below_drew1)|exact HB.out)) : w.heap.size ≤ gb329))
                 have n11_ := Aside0.mk ((by rw [hg];exact (below_size (by repeat first|(with_reducible first|exact HB.out|apply below_alloc|apply pw_below_drewN|apply below_drew1)|exact HB.out)) : w.heap.size ≤ gb329))
                 clear HO_8
                 clear HO_10
                 clear HL320_0
                 clear HL322_0
                 clear HL324_0
                 clear HR320_0
                 clear HR322_0
                 clear HR324_0
                 clear HB
                 have HO_8 := n0_
                 have HO_10 := n1_
                 have HL320_0 := n2_
                 have HL322_0 := n3_
                 have HL324_0 := n4_
                 have HR320_0 := n5_
                 have HR322_0 := n6_
                 have HR324_0 := n7_
                 have HB := n8_
                 have BK329 := n9_
                 have GW329 := n10_
                 have GE329 := n11_
                 clear n0_ n1_ n2_ n3_ n4_ n5_ n6_ n7_ n8_ n9_ n10_ n11_
                 clear hb hbox hg
                 refine hK.out _ _ ⟨HS0_, HS1_, HS2_, HS3_⟩ (fun hHeld => ?_)
                 clear hK K
                 refine norm_ (a' := ?_) ?_ ?_
                 rotate_left
                 ·show Act.put _ (some 13) _ = _
                  simp only [Act.put, List.setIfInBounds_toArray, List.set_cons_zero, List.set_cons_succ, i64_w, i32_w]
                  rfl
                 exact norm_ (by simp only [putAll, Act.put, List.setIfInBounds_toArray, List.set_cons_zero, List.set_cons_succ]) (hCont (gb329) _ ⟨hHeld, (by (with_reducible repeat (first|apply Kd.V_alloc|apply Kd.V_drewN|apply Kd.V_drew));exact Kd.V_mono HL320_0.out (fun _ hk => by first|exact ⟨hk.1.2, ⟨hk.1.1, hk.2⟩⟩|exact ⟨hk.1.1, ⟨hk.1.2, hk.2⟩⟩|exact ⟨⟨hk.1.1, hk.1.2⟩, hk.2⟩|exact ⟨hk.2, hk.1⟩|((repeat' apply And.intro) <;> simp_all))), (by (with_reducible repeat (first|apply Kd.V_alloc|apply Kd.V_drewN|apply Kd.V_drew));exact Kd.V_mono HL322_0.out (fun _ hk => by first|exact ⟨hk.1.2, ⟨hk.1.1, hk.2⟩⟩|exact ⟨hk.1.1, ⟨hk.1.2, hk.2⟩⟩|exact ⟨⟨hk.1.1, hk.1.2⟩, hk.2⟩|exact ⟨hk.2, hk.1⟩|((repeat' apply And.intro) <;> simp_all))), (by (with_reducible repeat (first|apply Kd.V_alloc|apply Kd.V_drewN|apply Kd.V_drew));exact Kd.V_mono HL324_0.out (fun _ hk => by first|exact ⟨hk.1.2, ⟨hk.1.1, hk.2⟩⟩|exact ⟨hk.1.1, ⟨hk.1.2, hk.2⟩⟩|exact ⟨⟨hk.1.1, hk.1.2⟩, hk.2⟩|exact ⟨hk.2, hk.1⟩|((repeat' apply And.intro) <;> simp_all))), (by (with_reducible repeat (first|apply Kd.N_alloc|apply Kd.N_drewN|apply Kd.N_drew));exact HO_10.out), (by (with_reducible repeat (first|apply Kd.R_alloc|apply Kd.R_drewN|apply Kd.R_drew));exact Kd.R_mono HO_8.out (fun _ hk => hk.2)), (by (with_reducible repeat (first|refine blk_drewN ?_ _|refine blk_drew ?_|refine blk_alloc ?_ _));exact BK329.out), GW329.out, GE329.out, (by repeat (first|(with_reducible first|exact HB.out|apply below_alloc|apply pw_below_drewN|apply below_drew1|refine below_set ?_ GE329.out)|exact HB.out))⟩)
                ·skip
                 refine box_step ?hg (N := 13) ?hd (cs := #[.int .i64 0, .int .i64 0]) (t := 26) ?hr ?_;(case hd => rfl);(case hg => rfl);(case hr => first|(go_simp;done)|(go_simp;rfl))
                 intro gb329 hg w40 hbox hb
                 have HS0_ := (hb.cell (World.block_lt_of_cell? _ _ (hHeld.1))).trans (hHeld.1)
                 have HS1_ := (hb.cell (World.block_lt_of_cell? _ _ (hHeld.2.1))).trans (hHeld.2.1)
                 have HS2_ := (hb.cell (World.block_lt_of_cell? _ _ (hHeld.2.2.1))).trans (hHeld.2.2.1)
                 have HS3_ := (hb.cell (World.block_lt_of_cell? _ _ (hHeld.2.2.2))).trans (hHeld.2.2.2)
                 have n0_ := Aside0.mk (Kd.R_below (Kd.R_elderB (by (with_reducible repeat (first|apply Kd.R_alloc|apply Kd.R_drewN|apply Kd.R_drew));exact HO_8.out) gb329 (Nat.le_of_eq hg.symm)) hb)
                 have n1_ := Aside0.mk (Kd.N_below (Kd.N_elderB (by (with_reducible repeat (first|apply Kd.N_alloc|apply Kd.N_drewN|apply Kd.N_drew));exact HO_10.out) gb329 (Nat.le_of_eq hg.symm)) hb)
                 have n2_ := Aside0.mk (Kd.V_below (Kd.V_elderB (by (with_reducible repeat (first|apply Kd.V_alloc|apply Kd.V_drewN|apply Kd.V_drew));exact HL320_0.out) gb329 (Nat.le_of_eq hg.symm)) hb)
                 have n3_ := Aside0.mk (Kd.V_below (Kd.V_elderB (by (with_reducible repeat (first|apply Kd.V_alloc|apply Kd.V_drewN|apply Kd.V_drew));exact HL322_0.out) gb329 (Nat.le_of_eq hg.symm)) hb)
                 have n4_ := Aside0.mk (Kd.V_below (Kd.V_elderB (by (with_reducible repeat (first|apply Kd.V_alloc|apply Kd.V_drewN|apply Kd.V_drew));exact HL324_0.out) gb329 (Nat.le_of_eq hg.symm)) hb)
                 have n5_ := Aside0.mk (Kd.C_below (by repeat (first|(with_reducible exact HR320_0.out)|(with_reducible refine Kd.C_alloc ?_ _)|(with_reducible refine Kd.C_drewN ?_ _)|(with_reducible refine Kd.C_drew ?_)|exact HR320_0.out)) hb)
                 have n6_ := Aside0.mk (Kd.C_below (by repeat (first|(with_reducible exact HR322_0.out)|(with_reducible refine Kd.C_alloc ?_ _)|(with_reducible refine Kd.C_drewN ?_ _)|(with_reducible refine Kd.C_drew ?_)|exact HR322_0.out)) hb)
                 have n7_ := Aside0.mk (Kd.C_below (by repeat (first|(with_reducible exact HR324_0.out)|(with_reducible refine Kd.C_alloc ?_ _)|(with_reducible refine Kd.C_drewN ?_ _)|(with_reducible refine Kd.C_drew ?_)|exact HR324_0.out)) hb)
                 have n8_ := Aside0.mk (below_step (by repeat first|(with_reducible first|exact HB.out|apply below_alloc|apply pw_below_drewN|apply below_drew1)|exact HB.out) hb)
                 have n9_ := Aside0.mk (hbox)
                 have n10_ := Aside0.mk ((by rw [hg];exact (below_size (by repeat first|(with_reducible first|exact HB.out|apply below_alloc|apply pw_below_drewN|apply below_drew1)|exact HB.out)) : w.heap.size ≤ gb329))
                 have n11_ := Aside0.mk ((by rw [hg];exact (below_size (by repeat first|(with_reducible first|exact HB.out|apply below_alloc|apply pw_below_drewN|apply below_drew1)|exact HB.out)) : w.heap.size ≤ gb329))
                 clear HO_8
                 clear HO_10
                 clear HL320_0
                 clear HL322_0
                 clear HL324_0
                 clear HR320_0
                 clear HR322_0
                 clear HR324_0
                 clear HB
                 have HO_8 := n0_
                 have HO_10 := n1_
                 have HL320_0 := n2_
                 have HL322_0 := n3_
                 have HL324_0 := n4_
                 have HR320_0 := n5_
                 have HR322_0 := n6_
                 have HR324_0 := n7_
                 have HB := n8_
                 have BK329 := n9_
                 have GW329 := n10_
                 have GE329 := n11_
                 clear n0_ n1_ n2_ n3_ n4_ n5_ n6_ n7_ n8_ n9_ n10_ n11_
                 clear hb hbox hg
                 refine hK.out _ _ ⟨HS0_, HS1_, HS2_, HS3_⟩ (fun hHeld => ?_)
                 clear hK K
                 refine norm_ (a' := ?_) ?_ ?_
                 rotate_left
                 ·show Act.put _ (some 13) _ = _
                  simp only [Act.put, List.setIfInBounds_toArray, List.set_cons_zero, List.set_cons_succ, i64_w, i32_w]
                  rfl
                 refine one_ (i := 14) (N := some 64) #[true, true, true, true, true, true, true, true, true, true, true, true, true, true, true, false, false, false, true, false, false] rfl rfl (one_of HT_.out (by kernel_rfl)) (by decide) (fun K hK => ?_)
                 refine goes_ Try.func70 (by kernel_rfl) rfl #[.int .i64 (rd (rd_L1 t317 x11_2) a2), .int .i64 (rd (rd_L1 t317 x11_2) t321)] (by rfl) rfl rfl (by (try simp only [List.map_toArray, List.map_cons, List.map_nil]);first|done|rfl|(simp only [List.length_drop, List.length_take];rfl)) ?_
                 with_reducible refine (spec_l4Make.calls k2 (rd (rd_L1 t317 x11_2) a2) (rd (rd_L1 t317 x11_2) t321) t326 t327 false _ A23.out).mono ?_
                 rintro e w41 ⟨rfl, hb⟩
                 have HS0_ := (hb.cell (World.block_lt_of_cell? _ _ (hHeld.1))).trans (hHeld.1)
                 have HS1_ := (hb.cell (World.block_lt_of_cell? _ _ (hHeld.2.1))).trans (hHeld.2.1)
                 have HS2_ := (hb.cell (World.block_lt_of_cell? _ _ (hHeld.2.2.1))).trans (hHeld.2.2.1)
                 have HS3_ := (hb.cell (World.block_lt_of_cell? _ _ (hHeld.2.2.2))).trans (hHeld.2.2.2)
                 refine ⟨_, rfl, ?_⟩
                 have n0_ := Aside0.mk (Kd.R_below (by (with_reducible repeat (first|apply Kd.R_alloc|apply Kd.R_drewN|apply Kd.R_drew));exact HO_8.out) hb)
                 have n1_ := Aside0.mk (Kd.N_below (by (with_reducible repeat (first|apply Kd.N_alloc|apply Kd.N_drewN|apply Kd.N_drew));exact HO_10.out) hb)
                 have n2_ := Aside0.mk (Kd.V_below (by (with_reducible repeat (first|apply Kd.V_alloc|apply Kd.V_drewN|apply Kd.V_drew));exact HL320_0.out) hb)
                 have n3_ := Aside0.mk (Kd.V_below (by (with_reducible repeat (first|apply Kd.V_alloc|apply Kd.V_drewN|apply Kd.V_drew));exact HL322_0.out) hb)
                 have n4_ := Aside0.mk (Kd.V_below (by (with_reducible repeat (first|apply Kd.V_alloc|apply Kd.V_drewN|apply Kd.V_drew));exact HL324_0.out) hb)
                 have n5_ := Aside0.mk (Kd.C_below (by repeat (first|(with_reducible exact HR320_0.out)|(with_reducible refine Kd.C_alloc ?_ _)|(with_reducible refine Kd.C_drewN ?_ _)|(with_reducible refine Kd.C_drew ?_)|exact HR320_0.out)) hb)
                 have n6_ := Aside0.mk (Kd.C_below (by repeat (first|(with_reducible exact HR322_0.out)|(with_reducible refine Kd.C_alloc ?_ _)|(with_reducible refine Kd.C_drewN ?_ _)|(with_reducible refine Kd.C_drew ?_)|exact HR322_0.out)) hb)
                 have n7_ := Aside0.mk (Kd.C_below (by repeat (first|(with_reducible exact HR324_0.out)|(with_reducible refine Kd.C_alloc ?_ _)|(with_reducible refine Kd.C_drewN ?_ _)|(with_reducible refine Kd.C_drew ?_)|exact HR324_0.out)) hb)
                 have n8_ := Aside0.mk (blk_below (g := gb329) (o := .cells #[.int .i64 0, .int .i64 0] 26 (0, 0)) (by (with_reducible repeat (first|refine blk_drewN ?_ _|refine blk_drew ?_|refine blk_alloc ?_ _));exact BK329.out) hb)
                 have n9_ := Aside0.mk (below_step (by repeat (first|(with_reducible first|exact HB.out|apply below_alloc|apply pw_below_drewN|apply below_drew1|refine below_set ?_ GE329.out)|exact HB.out)) hb)
                 clear HO_8
                 clear HO_10
                 clear HL320_0
                 clear HL322_0
                 clear HL324_0
                 clear HR320_0
                 clear HR322_0
                 clear HR324_0
                 clear BK329
                 clear HB
                 have HO_8 := n0_
                 have HO_10 := n1_
                 have HL320_0 := n2_
                 have HL322_0 := n3_
                 have HL324_0 := n4_
                 have HR320_0 := n5_
                 have HR322_0 := n6_
                 have HR324_0 := n7_
                 have BK329 := n8_
                 have HB := n9_
                 clear n0_ n1_ n2_ n3_ n4_ n5_ n6_ n7_ n8_ n9_
                 (try clear hb)
                 (try clear hb2)
                 (try clear hk)
                 (try clear hi)
                 refine hK.out _ _ ⟨HS0_, HS1_, HS2_, HS3_⟩ (fun hHeld => ?_)
                 clear hK K
                 refine norm_ (a' := ?_) ?_ ?_
                 rotate_left
                 ·show Act.put _ (some 64) _ = _
                  simp only [Act.put, List.setIfInBounds_toArray, List.set_cons_zero, List.set_cons_succ, i64_w, i32_w]
                  rfl
                 refine pure_ (i := 15) (N := some 49) (v := ?_) (a' := ?_) #[true, true, true, true, true, true, true, true, true, true, true, true, true, true, true, true, false, false, true, false, false] rfl rfl (any_of HT_.out (by kernel_rfl)) (fun _ _ _ h => h) (Or.inl ⟨by rfl, ?_⟩) ?_ ?_
                 rotate_left
                 ·intro w'
                  go_simp
                  with_reducible rfl
                 rotate_left
                 ·simp only [Act.put, List.setIfInBounds_toArray, List.set_cons_zero, List.set_cons_succ, i64_w, i32_w]
                  rfl
                 refine pure_ (i := 16) (N := some 65) (v := ?_) (a' := ?_) #[true, true, true, true, true, true, true, true, true, true, true, true, true, true, true, true, true, false, true, false, false] rfl rfl (any_of HT_.out (by kernel_rfl)) (fun _ _ _ h => h) (Or.inl ⟨by rfl, ?_⟩) ?_ ?_
                 rotate_left
                 ·intro w'
                  go_simp
                  with_reducible rfl
                 rotate_left
                 ·simp only [Act.put, List.setIfInBounds_toArray, List.set_cons_zero, List.set_cons_succ, i64_w, i32_w]
                  rfl
                 refine pure_ (i := 17) (N := some 66) (v := ?_) (a' := ?_) #[true, true, true, true, true, true, true, true, true, true, true, true, true, true, true, true, true, true, true, false, false] rfl rfl (any_of HT_.out (by kernel_rfl)) (fun _ _ _ h => h) (Or.inl ⟨by rfl, ?_⟩) ?_ ?_
                 rotate_left
                 ·intro w'
                  go_simp
                  with_reducible rfl
                 rotate_left
                 ·simp only [Act.put, List.setIfInBounds_toArray, List.set_cons_zero, List.set_cons_succ, i64_w, i32_w]
                  rfl
                 exact norm_ (by simp only [putAll, Act.put, List.setIfInBounds_toArray, List.set_cons_zero, List.set_cons_succ]) (hCont (gb329) _ ⟨hHeld, (by (with_reducible repeat (first|apply Kd.V_alloc|apply Kd.V_drewN|apply Kd.V_drew));exact Kd.V_mono HL320_0.out (fun _ hk => by first|exact ⟨hk.1.2, ⟨hk.1.1, hk.2⟩⟩|exact ⟨hk.1.1, ⟨hk.1.2, hk.2⟩⟩|exact ⟨⟨hk.1.1, hk.1.2⟩, hk.2⟩|exact ⟨hk.2, hk.1⟩|((repeat' apply And.intro) <;> simp_all))), (by (with_reducible repeat (first|apply Kd.V_alloc|apply Kd.V_drewN|apply Kd.V_drew));exact Kd.V_mono HL322_0.out (fun _ hk => by first|exact ⟨hk.1.2, ⟨hk.1.1, hk.2⟩⟩|exact ⟨hk.1.1, ⟨hk.1.2, hk.2⟩⟩|exact ⟨⟨hk.1.1, hk.1.2⟩, hk.2⟩|exact ⟨hk.2, hk.1⟩|((repeat' apply And.intro) <;> simp_all))), (by (with_reducible repeat (first|apply Kd.V_alloc|apply Kd.V_drewN|apply Kd.V_drew));exact Kd.V_mono HL324_0.out (fun _ hk => by first|exact ⟨hk.1.2, ⟨hk.1.1, hk.2⟩⟩|exact ⟨hk.1.1, ⟨hk.1.2, hk.2⟩⟩|exact ⟨⟨hk.1.1, hk.1.2⟩, hk.2⟩|exact ⟨hk.2, hk.1⟩|((repeat' apply And.intro) <;> simp_all))), (by (with_reducible repeat (first|apply Kd.N_alloc|apply Kd.N_drewN|apply Kd.N_drew));exact HO_10.out), (by (with_reducible repeat (first|apply Kd.R_alloc|apply Kd.R_drewN|apply Kd.R_drew));exact Kd.R_mono HO_8.out (fun _ hk => hk.2)), (by (with_reducible repeat (first|refine blk_drewN ?_ _|refine blk_drew ?_|refine blk_alloc ?_ _));exact BK329.out), GW329.out, GE329.out, (by repeat (first|(with_reducible first|exact HB.out|apply below_alloc|apply pw_below_drewN|apply below_drew1|refine below_set ?_ GE329.out)|exact HB.out))⟩)
               rintro gb329 w42 ⟨hS_, h0_, h1_, h2_, h3_, h4_, h5_, h6_, h7_, h8_⟩
               have n0_ : Aside0 (Kd.V (Kd.int .i64) 3 w42 w.heap.size (fun k_ => some k_ ≠ (.slice (some ad320) t317.length co38 : Value).ownBlock ∧ some k_ ≠ (u8 : Value).ownBlock ∧ k_ ≠ gb329) (.slice A320_0 (rd_L1 t317 x11_2).length c320_0) (rd_L1 t317 x11_2)) := ⟨h0_⟩
               have n1_ : Aside0 (Kd.V (Kd.int .i64) 3 w42 w.heap.size (fun k_ => some k_ ≠ (.slice (some ad320) t317.length co38 : Value).ownBlock ∧ some k_ ≠ (u8 : Value).ownBlock ∧ k_ ≠ gb329) (.slice (some ad323) (rd_L1 t317 x11_2).length c322_0) (rd_L1 t317 x11_2)) := ⟨h1_⟩
               have n2_ : Aside0 (Kd.V (Kd.int .i64) 3 w42 w.heap.size (fun k_ => some k_ ≠ (.slice (some ad320) t317.length co38 : Value).ownBlock ∧ some k_ ≠ (u8 : Value).ownBlock ∧ k_ ≠ gb329) (.slice (some ad323) (rd_L1 t317 x11_2).length c322_0) (rd_L1 t317 x11_2)) := ⟨h2_⟩
               have n3_ : Aside0 (Kd.N (Kd.slice 3 (Kd.int .i64)) 23 w42 w.heap.size (fun k_ => some k_ ≠ (u8 : Value).ownBlock ∧ k_ ≠ gb329) (.slice (some ad320) t317.length co38) t317) := ⟨h3_⟩
               have n4_ : Aside0 (Kd.R k26 26 w42 w.heap.size (fun k_ => k_ ≠ gb329) u8 x8_2) := ⟨h4_⟩
               have n5_ : Aside0 (w42.heap[gb329]? = some (.cells #[.int .i64 0, .int .i64 0] 26 (0, 0))) := ⟨h5_⟩
               have n6_ : Aside0 (w.heap.size ≤ gb329) := ⟨h6_⟩
               have n7_ : Aside0 (w.heap.size ≤ gb329) := ⟨h7_⟩
               have n8_ : Aside0 (Below w.heap.size w w42) := ⟨h8_⟩
               clear HO_8
               clear HO_10
               clear HL320_0
               clear HR320_0
               clear HB
               clear h0_ h1_ h2_ h3_ h4_ h5_ h6_ h7_ h8_
               have HL320_0 := n0_
               have HL322_0 := n1_
               have HL324_0 := n2_
               have HO_10 := n3_
               have HO_8 := n4_
               have BK329 := n5_
               have GW329 := n6_
               have GE329 := n7_
               have HB := n8_
               clear n0_ n1_ n2_ n3_ n4_ n5_ n6_ n7_ n8_
               have hHeld : w42.cell? (ad320.add (x11_2).toNat) = some (.slice (some ad323) (rd_L1 t317 x11_2).length c322_0) ∧ w42.cell? (ad323.add (a2).toNat) = some (.int .i64 (rd (rd_L1 t317 x11_2) a2)) ∧ w42.cell? (ad320.add (x11_2).toNat) = some (.slice (some ad323) (rd_L1 t317 x11_2).length c322_0) ∧ w42.cell? (ad323.add (t321).toNat) = some (.int .i64 (rd (rd_L1 t317 x11_2) t321)) := hS_
               refine norm_ (a' := ?_) ?_ ?_
               rotate_left
               ·simp only [putAll, Act.put, List.setIfInBounds_toArray, List.set_cons_zero, List.set_cons_succ]
                rfl
               refine one_ (i := 19) (N := none) #[true, true, true, true, true, true, true, true, true, true, true, true, true, true, true, true, true, true, true, true, false] rfl rfl (one_of HT_.out (by kernel_rfl)) (by decide) (fun K hK => ?_)
               have hs43 : w42.cell? ⟨gb329, 0, none⟩ = some (.int .i64 0) := (blk_cell BK329.out 0).trans rfl
               have hfs43 := blk_frozen BK329.out 0
               have hs44 : w42.cell? ⟨gb329, 1, none⟩ = some (.int .i64 0) := (blk_cell BK329.out 1).trans rfl
               have hfs44 := blk_frozen BK329.out 1
               refine skip_ (w1 := ?_) (by rfl) rfl ?_ ?_
               rotate_left
               ·go_simp
                rfl
               refine hK.out _ _ ⟨((cell_far (p := ⟨gb329, _, none⟩) (by first|exact Kd.own_blk (Kd.N_away HO_10.out (fun _ hk => hk.2))|(rw [add_block];exact Kd.own_blk (Kd.N_away HO_10.out (fun _ hk => hk.2)))|(show (Addr.add _ _).block ≠ _;rw [add_block];exact Kd.own_blk (Kd.N_away HO_10.out (fun _ hk => hk.2)))|(dsimp only;exact Kd.own_blk (Kd.N_away HO_10.out (fun _ hk => hk.2)))) _).trans (((cell_far (p := ⟨gb329, _, none⟩) (by first|exact Kd.own_blk (Kd.N_away HO_10.out (fun _ hk => hk.2))|(rw [add_block];exact Kd.own_blk (Kd.N_away HO_10.out (fun _ hk => hk.2)))|(show (Addr.add _ _).block ≠ _;rw [add_block];exact Kd.own_blk (Kd.N_away HO_10.out (fun _ hk => hk.2)))|(dsimp only;exact Kd.own_blk (Kd.N_away HO_10.out (fun _ hk => hk.2)))) _).trans (hHeld.1)))), ((cell_far (p := ⟨gb329, _, none⟩) (by first|exact Kd.own_blk (vaway HL322_0.out (by have a_ := of_eq_true p323;have b_ := of_eq_true q323;omega) (fun _ hk => hk.2.2))|(rw [add_block];exact Kd.own_blk (vaway HL322_0.out (by have a_ := of_eq_true p323;have b_ := of_eq_true q323;omega) (fun _ hk => hk.2.2)))|(show (Addr.add _ _).block ≠ _;rw [add_block];exact Kd.own_blk (vaway HL322_0.out (by have a_ := of_eq_true p323;have b_ := of_eq_true q323;omega) (fun _ hk => hk.2.2)))|(dsimp only;exact Kd.own_blk (vaway HL322_0.out (by have a_ := of_eq_true p323;have b_ := of_eq_true q323;omega) (fun _ hk => hk.2.2)))) _).trans (((cell_far (p := ⟨gb329, _, none⟩) (by first|exact Kd.own_blk (vaway HL322_0.out (by have a_ := of_eq_true p323;have b_ := of_eq_true q323;omega) (fun _ hk => hk.2.2))|(rw [add_block];exact Kd.own_blk (vaway HL322_0.out (by have a_ := of_eq_true p323;have b_ := of_eq_true q323;omega) (fun _ hk => hk.2.2)))|(show (Addr.add _ _).block ≠ _;rw [add_block];exact Kd.own_blk (vaway HL322_0.out (by have a_ := of_eq_true p323;have b_ := of_eq_true q323;omega) (fun _ hk => hk.2.2)))|(dsimp only;exact Kd.own_blk (vaway HL322_0.out (by have a_ := of_eq_true p323;have b_ := of_eq_true q323;omega) (fun _ hk => hk.2.2)))) _).trans (hHeld.2.1)))), ((cell_far (p := ⟨gb329, _, none⟩) (by first|exact Kd.own_blk (Kd.N_away HO_10.out (fun _ hk => hk.2))|(rw [add_block];exact Kd.own_blk (Kd.N_away HO_10.out (fun _ hk => hk.2)))|(show (Addr.add _ _).block ≠ _;rw [add_block];exact Kd.own_blk (Kd.N_away HO_10.out (fun _ hk => hk.2)))|(dsimp only;exact Kd.own_blk (Kd.N_away HO_10.out (fun _ hk => hk.2)))) _).trans (((cell_far (p := ⟨gb329, _, none⟩) (by first|exact Kd.own_blk (Kd.N_away HO_10.out (fun _ hk => hk.2))|(rw [add_block];exact Kd.own_blk (Kd.N_away HO_10.out (fun _ hk => hk.2)))|(show (Addr.add _ _).block ≠ _;rw [add_block];exact Kd.own_blk (Kd.N_away HO_10.out (fun _ hk => hk.2)))|(dsimp only;exact Kd.own_blk (Kd.N_away HO_10.out (fun _ hk => hk.2)))) _).trans (hHeld.2.2.1)))), ((cell_far (p := ⟨gb329, _, none⟩) (by first|exact Kd.own_blk (vaway HL324_0.out (by have a_ := of_eq_true p325;have b_ := of_eq_true q325;omega) (fun _ hk => hk.2.2))|(rw [add_block];exact Kd.own_blk (vaway HL324_0.out (by have a_ := of_eq_true p325;have b_ := of_eq_true q325;omega) (fun _ hk => hk.2.2)))|(show (Addr.add _ _).block ≠ _;rw [add_block];exact Kd.own_blk (vaway HL324_0.out (by have a_ := of_eq_true p325;have b_ := of_eq_true q325;omega) (fun _ hk => hk.2.2)))|(dsimp only;exact Kd.own_blk (vaway HL324_0.out (by have a_ := of_eq_true p325;have b_ := of_eq_true q325;omega) (fun _ hk => hk.2.2)))) _).trans (((cell_far (p := ⟨gb329, _, none⟩) (by first|exact Kd.own_blk (vaway HL324_0.out (by have a_ := of_eq_true p325;have b_ := of_eq_true q325;omega) (fun _ hk => hk.2.2))|(rw [add_block];exact Kd.own_blk (vaway HL324_0.out (by have a_ := of_eq_true p325;have b_ := of_eq_true q325;omega) (fun _ hk => hk.2.2)))|(show (Addr.add _ _).block ≠ _;rw [add_block];exact Kd.own_blk (vaway HL324_0.out (by have a_ := of_eq_true p325;have b_ := of_eq_true q325;omega) (fun _ hk => hk.2.2)))|(dsimp only;exact Kd.own_blk (vaway HL324_0.out (by have a_ := of_eq_true p325;have b_ := of_eq_true q325;omega) (fun _ hk => hk.2.2)))) _).trans (hHeld.2.2.2))))⟩ (fun hHeld => ?_)
               clear hK K
               refine pure_ (i := 20) (N := some 14) (v := ?_) (a' := ?_) #[true, true, true, true, true, true, true, true, true, true, true, true, true, true, true, true, true, true, true, true, true] rfl rfl (any_of HT_.out (by kernel_rfl)) (fun _ _ _ h => h) (Or.inl ⟨by rfl, ?_⟩) ?_ ?_
               rotate_left
               ·intro w'
                go_simp
                with_reducible rfl
               rotate_left
               ·simp only [Act.put, List.setIfInBounds_toArray, List.set_cons_zero, List.set_cons_succ, i64_w, i32_w]
                rfl
               refine done_ (done_of HT_.out (by kernel_rfl)) ?_
               try go_wp2_with (first|((with_reducible refine gate_dst (N := 69) rfl ?_);refine Kd.R_lit k26 _ 26 ?hg (N := 69) ?hd (xs := ([] : List (S26))) (inner := []) (ok := fun _ => True) (okp := fun _ => True) ?hr ?hp (fun _ hk => hk) trivial (Below.refl _ _) (Nat.le_refl _) (by simp) ?_;(case hd => rfl);(case hg => rfl);(case hr => first|(go_simp;done)|(go_simp;rfl));(case hp => exact (Reps.none _ _));intro v332 w45 ho46 hb hg_ hnew_;clear hg_ hnew_;(first|rw [← Ny331.out] at ho46|(simp only [Int.reduceToNat] at ho46;rw [← Ny331.out] at ho46));have n0_ := Aside0.mk (Kd.R_elder' (by (with_reducible repeat (first|apply Kd.R_alloc|apply Kd.R_drewN|apply Kd.R_drew));exact (Kd.R_mono (Kd.R_far (p := ⟨gb329, 1, none⟩) (Kd.R_far (p := ⟨gb329, 0, none⟩) (Kd.R_mono HO_8.out (fun k_ hk => (⟨hk, hk⟩ : _ ∧ k_ ≠ gb329))) (fun _ hk => hk.2) (.int .i64 t326)) (fun _ hk => hk.2) (.int .i64 t327)) (fun _ h_ => h_.1))) (Kd.R_base ho46) hb);have n1_ := Aside0.mk (Kd.N_elder' (by (with_reducible repeat (first|apply Kd.N_alloc|apply Kd.N_drewN|apply Kd.N_drew));exact (Kd.N_mono (Kd.N_far (p := ⟨gb329, 1, none⟩) (Kd.N_far (p := ⟨gb329, 0, none⟩) (Kd.N_mono HO_10.out (fun k_ hk => (⟨hk, hk.2⟩ : _ ∧ k_ ≠ gb329))) (fun _ hk => hk.2) (.int .i64 t326)) (fun _ hk => hk.2) (.int .i64 t327)) (fun _ h_ => h_.1))) (Kd.R_base ho46) hb);have n2_ := Aside0.mk (Kd.V_elder' (by (with_reducible repeat (first|apply Kd.V_alloc|apply Kd.V_drewN|apply Kd.V_drew));exact (Kd.V_mono (Kd.V_far (p := ⟨gb329, 1, none⟩) (Kd.V_far (p := ⟨gb329, 0, none⟩) (Kd.V_mono HL320_0.out (fun k_ hk => (⟨hk, hk.2.2⟩ : _ ∧ k_ ≠ gb329))) (fun _ hk => hk.2) (.int .i64 t326)) (fun _ hk => hk.2) (.int .i64 t327)) (fun _ h_ => h_.1))) (Kd.R_base ho46) hb);have n3_ := Aside0.mk (Kd.V_elder' (by (with_reducible repeat (first|apply Kd.V_alloc|apply Kd.V_drewN|apply Kd.V_drew));exact (Kd.V_mono (Kd.V_far (p := ⟨gb329, 1, none⟩) (Kd.V_far (p := ⟨gb329, 0, none⟩) (Kd.V_mono HL322_0.out (fun k_ hk => (⟨hk, hk.2.2⟩ : _ ∧ k_ ≠ gb329))) (fun _ hk => hk.2) (.int .i64 t326)) (fun _ hk => hk.2) (.int .i64 t327)) (fun _ h_ => h_.1))) (Kd.R_base ho46) hb);have n4_ := Aside0.mk (Kd.V_elder' (by (with_reducible repeat (first|apply Kd.V_alloc|apply Kd.V_drewN|apply Kd.V_drew));exact (Kd.V_mono (Kd.V_far (p := ⟨gb329, 1, none⟩) (Kd.V_far (p := ⟨gb329, 0, none⟩) (Kd.V_mono HL324_0.out (fun k_ hk => (⟨hk, hk.2.2⟩ : _ ∧ k_ ≠ gb329))) (fun _ hk => hk.2) (.int .i64 t326)) (fun _ hk => hk.2) (.int .i64 t327)) (fun _ h_ => h_.1))) (Kd.R_base ho46) hb);have n5_ := Aside0.mk (Kd.R_lower (Kd.R_newB (Kd.R_new' ho46 (Kd.R_lt (by (with_reducible repeat (first|apply Kd.R_alloc|apply Kd.R_drewN|apply Kd.R_drew));exact (Kd.R_mono (Kd.R_far (p := ⟨gb329, 1, none⟩) (Kd.R_far (p := ⟨gb329, 0, none⟩) (Kd.R_mono HO_8.out (fun k_ hk => (⟨hk, hk⟩ : _ ∧ k_ ≠ gb329))) (fun _ hk => hk.2) (.int .i64 t326)) (fun _ hk => hk.2) (.int .i64 t327)) (fun _ h_ => h_.1))))) (g := gb329) (o := .cells #[.int .i64 t326, .int .i64 t327] 26 (0, 0)) (by (with_reducible repeat (first|refine blk_drewN ?_ _|refine blk_drew ?_|refine blk_alloc ?_ _));refine blk_put (cs := #[.int .i64 t326, .int .i64 0]) ?_ 1 _ rfl;(with_reducible repeat (first|refine blk_drewN ?_ _|refine blk_drew ?_|refine blk_alloc ?_ _));refine blk_put (cs := #[.int .i64 0, .int .i64 0]) ?_ 0 _ rfl;(with_reducible repeat (first|refine blk_drewN ?_ _|refine blk_drew ?_|refine blk_alloc ?_ _));exact BK329.out)) (below_size (by repeat (first|(with_reducible first|exact HB.out|apply below_alloc|apply pw_below_drewN|apply below_drew1|refine below_set ?_ GE329.out)|exact HB.out))));have n6_ := Aside0.mk (blk_below (g := gb329) (o := .cells #[.int .i64 t326, .int .i64 t327] 26 (0, 0)) (by (with_reducible repeat (first|refine blk_drewN ?_ _|refine blk_drew ?_|refine blk_alloc ?_ _));refine blk_put (cs := #[.int .i64 t326, .int .i64 0]) ?_ 1 _ rfl;(with_reducible repeat (first|refine blk_drewN ?_ _|refine blk_drew ?_|refine blk_alloc ?_ _));refine blk_put (cs := #[.int .i64 0, .int .i64 0]) ?_ 0 _ rfl;(with_reducible repeat (first|refine blk_drewN ?_ _|refine blk_drew ?_|refine blk_alloc ?_ _));exact BK329.out) hb);have n7_ := Aside0.mk (below_step (by repeat (first|(with_reducible first|exact HB.out|apply below_alloc|apply pw_below_drewN|apply below_drew1|refine below_set ?_ GE329.out)|exact HB.out)) hb);clear HO_8;clear HO_10;clear HL320_0;clear HL322_0;clear HL324_0;clear BK329;clear HB;have HO_8 := n0_;have HO_10 := n1_;have HL320_0 := n2_;have HL322_0 := n3_;have HL324_0 := n4_;have HO333 := n5_;have BK329 := n6_;have HB := n7_;clear n0_ n1_ n2_ n3_ n4_ n5_ n6_ n7_;clear hb ho46))
               go_ret2
               exact ⟨_, by first|rfl|(simp [errW_none, errW_some] <;> rfl)|(simp [*, errW_none, errW_some] <;> rfl), by (with_reducible repeat (first|apply Kd.R_alloc|apply Kd.R_drewN|apply Kd.R_drew));exact Kd.R_mono HO333.out (fun _ hk => trivial), by repeat (first|(with_reducible first|exact HB.out|apply below_alloc|apply pw_below_drewN|apply below_drew1|refine below_set ?_ GE329.out)|exact HB.out)⟩
             ·rw [if_neg c22] at H
              exact absurd H (by simp)
            ·rw [if_neg c21] at H
             exact absurd H (by simp)
           ·rw [if_neg c20] at H
            exact absurd H (by simp)
          ·rw [if_neg c19] at H
           exact absurd H (by simp)
        ·rw [if_neg c15] at H
         exact absurd H (by simp)
       ·rw [if_neg c14] at H
        have c14b0 : decide (x11_2 < (t317.length : Int)) = false := decide_eq_false c14
        clear c14
        simp only [Option.some.injEq, Prod.mk.injEq] at H
        obtain ⟨rfl, rfl⟩ := H
        obtain ⟨Ao47, co47, eo47⟩ := Kd.N_slice HO_10.out
        subst eo47
        go_wp2
        go_ret2
        exact ⟨_, by first|rfl|(simp [errW_none, errW_some] <;> rfl)|(simp [*, errW_none, errW_some] <;> rfl), by (with_reducible repeat (first|apply Kd.R_alloc|apply Kd.R_drewN|apply Kd.R_drew));exact HO_8.out, by repeat (first|(with_reducible first|exact HB.out|apply below_alloc|apply pw_below_drewN|apply below_drew1)|exact HB.out)⟩
 ·replace c5 := Bool.eq_false_iff.mpr c5
  subst c5
  have H1 : (some ((([] : List (S26))), false)) = some (r1, r2) := by rw [if_neg (show ¬ (false = true) by decide)] at H;exact H
  clear H
  have H := H1
  clear H1
  obtain ⟨y308, hy308⟩ : ∃ y_ : List (S26), y_ = (([] : List (S26))) := ⟨_, rfl⟩
  replace H : (some (y308, false)) = some (r1, r2) := by first|(rw [hy308];with_reducible exact H)|(have H2_ := (Option.bind_some _ _).symm.trans H;rw [hy308];with_reducible exact H2_)|(have H2_ := (Option.bind_some _ _).symm.trans H;with_reducible exact H2_)|with_reducible exact H|(rw [hy308];exact H)|exact H
  have Ny308 := Aside0.mk hy308
  clear hy308
  simp only [Option.some.injEq, Prod.mk.injEq] at H
  obtain ⟨rfl, rfl⟩ := H
  go_enter Try.func26, Try.ntmps26
  go_wp2_with (first|((with_reducible refine gate_callee (f := 49) rfl ?_);refine goesL_ (some 18) rfl rfl Try.func49 (by kernel_rfl) rfl #[.slice A0 l0.length c0, .slice A1 l1.length c1, .int .i64 a2] rfl (by (try simp only [List.map_toArray, List.map_cons, List.map_nil]);first|done|rfl|(simp only [List.length_drop, List.length_take];rfl)) ?_;(with_reducible refine (spec_IsSolvable.calls k _ _ l0 _ _ l1 a2 false _ ?side1 ?side2 ?side3 ?side4 A4.out).mono ?_);(case side1 => repeat (first|exact HR0.out|(with_reducible refine Kd.C_alloc ?_ _)|(with_reducible refine Kd.C_drewN ?_ _)|(with_reducible refine Kd.C_drew ?_)));(case side2 => exact HC0.out);(case side3 => repeat (first|exact HR1.out|(with_reducible refine Kd.C_alloc ?_ _)|(with_reducible refine Kd.C_drewN ?_ _)|(with_reducible refine Kd.C_drew ?_)));(case side4 => exact HC1.out);rintro e w48 ⟨rfl, hb⟩;refine ⟨_, rfl, ?_⟩;have n0_ := Aside0.mk (below_step (by repeat first|(with_reducible first|exact HB.out|apply below_alloc|apply pw_below_drewN|apply below_drew1)|exact HB.out) hb);clear HB;have HB := n0_;clear n0_;(try clear hb);(try clear hb2);(try clear hk);(try clear hi))|((with_reducible refine gate_dst (N := 20) rfl ?_);refine Kd.R_lit k26 _ 26 ?hg (N := 20) ?hd (xs := ([] : List (S26))) (inner := []) (ok := fun _ => True) (okp := fun _ => True) ?hr ?hp (fun _ hk => hk) trivial (Below.refl _ _) (Nat.le_refl _) (by simp) ?_;(case hd => rfl);(case hg => rfl);(case hr => first|(go_simp;done)|(go_simp;rfl));(case hp => exact (Reps.none _ _));intro v309 w49 ho50 hb hg_ hnew_;clear hg_ hnew_;(first|rw [← Ny308.out] at ho50|(simp only [Int.reduceToNat] at ho50;rw [← Ny308.out] at ho50));have n0_ := Aside0.mk (Kd.R_lower ho50 (below_size (by repeat first|(with_reducible first|exact HB.out|apply below_alloc|apply pw_below_drewN|apply below_drew1)|exact HB.out)));have n1_ := Aside0.mk (below_step (by repeat first|(with_reducible first|exact HB.out|apply below_alloc|apply pw_below_drewN|apply below_drew1)|exact HB.out) hb);clear HB;have HO310 := n0_;have HB := n1_;clear n0_ n1_;clear hb ho50))
  go_ret2
  exact ⟨_, by first|rfl|(simp [errW_none, errW_some] <;> rfl)|(simp [*, errW_none, errW_some] <;> rfl), by (with_reducible repeat (first|apply Kd.R_alloc|apply Kd.R_drewN|apply Kd.R_drew));exact HO310.out, by repeat (first|(with_reducible first|exact HB.out|apply below_alloc|apply pw_below_drewN|apply below_drew1)|exact HB.out)⟩
end Go.Proofs.Ytojkepidkmkmpaa.PFnExactSolutionOf
end
section
namespace Go.Proofs.Ytojkepidkmkmpaa.PFnExactSolutionOf
open Go.RowKit Go.Proofs.YtojkepidkmkmpaaW.PrintWords Go.Proofs.YtojkepidkmkmpaaW.PrintLast Go.Proofs.YtojkepidkmkmpaaW.PrintMore
attribute [local go_sem] max2_int min2_int max_two min_two max_three min_three max_four min_four
set_option linter.unusedVariables false
set_option linter.unusedSimpArgs false
def laws_eqRatio.f (a0_0 : Int) (a0_1 : Int) (a1_0 : Int) (a1_1 : Int) : Option (Bool) := if a0_0 = a1_0 then (if a0_1 = a1_1 then (some true) else (some false)) else (some false)
set_option maxHeartbeats 8000000 in
set_option maxRecDepth 100000 in
theorem laws_eqRatio.calls (a0_0 : Int) (a0_1 : Int) (a1_0 : Int) (a1_1 : Int) (r : Bool) (w : World) (h : laws_eqRatio.f a0_0 a0_1 a1_0 a1_1 = some r) :
  Calls Try.prog 20 #[.agg #[.int .i64 a0_0, .int .i64 a0_1], .agg #[.int .i64 a1_0, .int .i64 a1_1]] w fun e w' => e = .returned (.bool r) ∧ Below w.heap.size w w' := by
 have hu26 := Try.underlying26
 have HB := Aside0.mk (Below.refl w.heap.size w)
 have H : (if a0_0 = a1_0 then (if a0_1 = a1_1 then (some true) else (some false)) else (some false)) = some r := h
 clear h
 by_cases c3 : a0_0 = a1_0
 ·rw [if_pos c3] at H
  have c3b0 : (a0_0 == a1_0) = true := beq_iff_eq.mpr c3
  have c3b1 : (a0_0 != a1_0) = false := bne_eq_false_iff_eq.mpr c3
  clear c3
  by_cases c4 : a0_1 = a1_1
  ·rw [if_pos c4] at H
   have c4b0 : (a0_1 == a1_1) = true := beq_iff_eq.mpr c4
   have c4b1 : (a0_1 != a1_1) = false := bne_eq_false_iff_eq.mpr c4
   clear c4
   obtain rfl := Option.some.inj H
   go_enter Try.func20, Try.ntmps20
   go_wp2_with (first|((with_reducible refine gate_dst (N := 2) rfl ?_);refine box_event ?hg (N := 2) ?hd (cs := #[.int .i64 a0_0, .int .i64 a0_1]) (t := 26) ?hr ?_;(case hd => rfl);(case hg => rfl);(case hr => first|(go_simp;done)|(go_simp;rfl));intro gb334 hg w5 hbox hb;have n0_ := Aside0.mk (below_step (by repeat first|(with_reducible first|exact HB.out|apply below_alloc|apply pw_below_drewN|apply below_drew1)|exact HB.out) hb);have n1_ := Aside0.mk (hbox);have n2_ := Aside0.mk ((by rw [hg];exact (below_size (by repeat first|(with_reducible first|exact HB.out|apply below_alloc|apply pw_below_drewN|apply below_drew1)|exact HB.out)) : w.heap.size ≤ gb334));have n3_ := Aside0.mk ((by rw [hg];exact (below_size (by repeat first|(with_reducible first|exact HB.out|apply below_alloc|apply pw_below_drewN|apply below_drew1)|exact HB.out)) : w.heap.size ≤ gb334));clear HB;have HB := n0_;have BK334 := n1_;have GW334 := n2_;have GE334 := n3_;clear n0_ n1_ n2_ n3_;clear hb hbox hg)|((with_reducible refine gate_dst (N := 3) rfl ?_);refine box_event ?hg (N := 3) ?hd (cs := #[.int .i64 a1_0, .int .i64 a1_1]) (t := 26) ?hr ?_;(case hd => rfl);(case hg => rfl);(case hr => first|(go_simp;done)|(go_simp;rfl));intro gb335 hg w6 hbox hb;have n0_ := Aside0.mk (blk_below (g := gb334) (o := .cells #[.int .i64 a0_0, .int .i64 a0_1] 26 (0, 0)) (by (with_reducible repeat (first|refine blk_drewN ?_ _|refine blk_drew ?_|refine blk_alloc ?_ _));exact BK334.out) hb);have n1_ := Aside0.mk (below_step (by repeat (first|(with_reducible first|exact HB.out|apply below_alloc|apply pw_below_drewN|apply below_drew1|refine below_set ?_ GE334.out)|exact HB.out)) hb);have n2_ := Aside0.mk (hbox);have n3_ := Aside0.mk ((by rw [hg];exact (below_size (by repeat (first|(with_reducible first|exact HB.out|apply below_alloc|apply pw_below_drewN|apply below_drew1|refine below_set ?_ GE334.out)|exact HB.out))) : w.heap.size ≤ gb335));have n4_ := Aside0.mk ((by rw [hg];exact (below_size (by repeat (first|(with_reducible first|exact HB.out|apply below_alloc|apply pw_below_drewN|apply below_drew1|refine below_set ?_ GE334.out)|exact HB.out))) : w.heap.size ≤ gb335));have n5_ := Aside0.mk ((by rw [hg];exact Nat.ne_of_lt (blk_lt (g := gb334) (o := .cells #[.int .i64 a0_0, .int .i64 a0_1] 26 (0, 0)) (by (with_reducible repeat (first|refine blk_drewN ?_ _|refine blk_drew ?_|refine blk_alloc ?_ _));exact BK334.out)) : gb334 ≠ gb335));have n6_ := Aside0.mk ((by rw [hg];exact Nat.ne_of_gt (blk_lt (g := gb334) (o := .cells #[.int .i64 a0_0, .int .i64 a0_1] 26 (0, 0)) (by (with_reducible repeat (first|refine blk_drewN ?_ _|refine blk_drew ?_|refine blk_alloc ?_ _));exact BK334.out)) : gb335 ≠ gb334));clear BK334;clear HB;have BK334 := n0_;have HB := n1_;have BK335 := n2_;have GW335 := n3_;have GE335 := n4_;have NB334_335 := n5_;have NB335_334 := n6_;clear n0_ n1_ n2_ n3_ n4_ n5_ n6_;clear hb hbox hg;have hnb7 := NB334_335.out;have hnc7 := NB335_334.out;have hcz8_0 : w6.cell? ⟨gb334, 0, none⟩ = some (.int .i64 a0_0) := (blk_cell BK334.out 0).trans rfl;have hcz8_1 : w6.cell? ⟨gb334, 1, none⟩ = some (.int .i64 a0_1) := (blk_cell BK334.out 1).trans rfl;have hfz8_0 := blk_frozen BK334.out 0;have hfz8_1 := blk_frozen BK334.out 1;have hcz9_0 : w6.cell? ⟨gb335, 0, none⟩ = some (.int .i64 a1_0) := (blk_cell BK335.out 0).trans rfl;have hcz9_1 : w6.cell? ⟨gb335, 1, none⟩ = some (.int .i64 a1_1) := (blk_cell BK335.out 1).trans rfl;have hfz9_0 := blk_frozen BK335.out 0;have hfz9_1 := blk_frozen BK335.out 1))
   go_ret
   exact ⟨by first|rfl|(simp [errW_none, errW_some] <;> rfl)|(simp [*, errW_none, errW_some] <;> rfl), by repeat (first|(with_reducible first|exact HB.out|apply below_alloc|apply pw_below_drewN|apply below_drew1|refine below_set ?_ GE334.out|refine below_set ?_ GE335.out)|exact HB.out)⟩
  ·rw [if_neg c4] at H
   have c4b0 : (a0_1 == a1_1) = false := beq_eq_false_iff_ne.mpr c4
   have c4b1 : (a0_1 != a1_1) = true := bne_iff_ne.mpr c4
   obtain rfl := Option.some.inj H
   go_enter Try.func20, Try.ntmps20
   go_wp2_with (first|((with_reducible refine gate_dst (N := 2) rfl ?_);refine box_event ?hg (N := 2) ?hd (cs := #[.int .i64 a0_0, .int .i64 a0_1]) (t := 26) ?hr ?_;(case hd => rfl);(case hg => rfl);(case hr => first|(go_simp;done)|(go_simp;rfl));intro gb334 hg w10 hbox hb;have n0_ := Aside0.mk (below_step (by repeat first|(with_reducible first|exact HB.out|apply below_alloc|apply pw_below_drewN|apply below_drew1)|exact HB.out) hb);have n1_ := Aside0.mk (hbox);have n2_ := Aside0.mk ((by rw [hg];exact (below_size (by repeat first|(with_reducible first|exact HB.out|apply below_alloc|apply pw_below_drewN|apply below_drew1)|exact HB.out)) : w.heap.size ≤ gb334));have n3_ := Aside0.mk ((by rw [hg];exact (below_size (by repeat first|(with_reducible first|exact HB.out|apply below_alloc|apply pw_below_drewN|apply below_drew1)|exact HB.out)) : w.heap.size ≤ gb334));clear HB;have HB := n0_;have BK334 := n1_;have GW334 := n2_;have GE334 := n3_;clear n0_ n1_ n2_ n3_;clear hb hbox hg)|((with_reducible refine gate_dst (N := 3) rfl ?_);refine box_event ?hg (N := 3) ?hd (cs := #[.int .i64 a1_0, .int .i64 a1_1]) (t := 26) ?hr ?_;(case hd => rfl);(case hg => rfl);(case hr => first|(go_simp;done)|(go_simp;rfl));intro gb335 hg w11 hbox hb;have n0_ := Aside0.mk (blk_below (g := gb334) (o := .cells #[.int .i64 a0_0, .int .i64 a0_1] 26 (0, 0)) (by (with_reducible repeat (first|refine blk_drewN ?_ _|refine blk_drew ?_|refine blk_alloc ?_ _));exact BK334.out) hb);have n1_ := Aside0.mk (below_step (by repeat (first|(with_reducible first|exact HB.out|apply below_alloc|apply pw_below_drewN|apply below_drew1|refine below_set ?_ GE334.out)|exact HB.out)) hb);have n2_ := Aside0.mk (hbox);have n3_ := Aside0.mk ((by rw [hg];exact (below_size (by repeat (first|(with_reducible first|exact HB.out|apply below_alloc|apply pw_below_drewN|apply below_drew1|refine below_set ?_ GE334.out)|exact HB.out))) : w.heap.size ≤ gb335));have n4_ := Aside0.mk ((by rw [hg];exact (below_size (by repeat (first|(with_reducible first|exact HB.out|apply below_alloc|apply pw_below_drewN|apply below_drew1|refine below_set ?_ GE334.out)|exact HB.out))) : w.heap.size ≤ gb335));have n5_ := Aside0.mk ((by rw [hg];exact Nat.ne_of_lt (blk_lt (g := gb334) (o := .cells #[.int .i64 a0_0, .int .i64 a0_1] 26 (0, 0)) (by (with_reducible repeat (first|refine blk_drewN ?_ _|refine blk_drew ?_|refine blk_alloc ?_ _));exact BK334.out)) : gb334 ≠ gb335));have n6_ := Aside0.mk ((by rw [hg];exact Nat.ne_of_gt (blk_lt (g := gb334) (o := .cells #[.int .i64 a0_0, .int .i64 a0_1] 26 (0, 0)) (by (with_reducible repeat (first|refine blk_drewN ?_ _|refine blk_drew ?_|refine blk_alloc ?_ _));exact BK334.out)) : gb335 ≠ gb334));clear BK334;clear HB;have BK334 := n0_;have HB := n1_;have BK335 := n2_;have GW335 := n3_;have GE335 := n4_;have NB334_335 := n5_;have NB335_334 := n6_;clear n0_ n1_ n2_ n3_ n4_ n5_ n6_;clear hb hbox hg;have hnb12 := NB334_335.out;have hnc12 := NB335_334.out;have hcz13_0 : w11.cell? ⟨gb334, 0, none⟩ = some (.int .i64 a0_0) := (blk_cell BK334.out 0).trans rfl;have hcz13_1 : w11.cell? ⟨gb334, 1, none⟩ = some (.int .i64 a0_1) := (blk_cell BK334.out 1).trans rfl;have hfz13_0 := blk_frozen BK334.out 0;have hfz13_1 := blk_frozen BK334.out 1;have hcz14_0 : w11.cell? ⟨gb335, 0, none⟩ = some (.int .i64 a1_0) := (blk_cell BK335.out 0).trans rfl;have hcz14_1 : w11.cell? ⟨gb335, 1, none⟩ = some (.int .i64 a1_1) := (blk_cell BK335.out 1).trans rfl;have hfz14_0 := blk_frozen BK335.out 0;have hfz14_1 := blk_frozen BK335.out 1))
   go_ret
   exact ⟨by first|rfl|(simp [errW_none, errW_some] <;> rfl)|(simp [*, errW_none, errW_some] <;> rfl), by repeat (first|(with_reducible first|exact HB.out|apply below_alloc|apply pw_below_drewN|apply below_drew1|refine below_set ?_ GE334.out|refine below_set ?_ GE335.out)|exact HB.out)⟩
 ·rw [if_neg c3] at H
  have c3b0 : (a0_0 == a1_0) = false := beq_eq_false_iff_ne.mpr c3
  have c3b1 : (a0_0 != a1_0) = true := bne_iff_ne.mpr c3
  obtain rfl := Option.some.inj H
  go_enter Try.func20, Try.ntmps20
  go_wp2_with (first|((with_reducible refine gate_dst (N := 2) rfl ?_);refine box_event ?hg (N := 2) ?hd (cs := #[.int .i64 a0_0, .int .i64 a0_1]) (t := 26) ?hr ?_;(case hd => rfl);(case hg => rfl);(case hr => first|(go_simp;done)|(go_simp;rfl));intro gb334 hg w15 hbox hb;have n0_ := Aside0.mk (below_step (by repeat first|(with_reducible first|exact HB.out|apply below_alloc|apply pw_below_drewN|apply below_drew1)|exact HB.out) hb);have n1_ := Aside0.mk (hbox);have n2_ := Aside0.mk ((by rw [hg];exact (below_size (by repeat first|(with_reducible first|exact HB.out|apply below_alloc|apply pw_below_drewN|apply below_drew1)|exact HB.out)) : w.heap.size ≤ gb334));have n3_ := Aside0.mk ((by rw [hg];exact (below_size (by repeat first|(with_reducible first|exact HB.out|apply below_alloc|apply pw_below_drewN|apply below_drew1)|exact HB.out)) : w.heap.size ≤ gb334));clear HB;have HB := n0_;have BK334 := n1_;have GW334 := n2_;have GE334 := n3_;clear n0_ n1_ n2_ n3_;clear hb hbox hg)|((with_reducible refine gate_dst (N := 3) rfl ?_);refine box_event ?hg (N := 3) ?hd (cs := #[.int .i64 a1_0, .int .i64 a1_1]) (t := 26) ?hr ?_;(case hd => rfl);(case hg => rfl);(case hr => first|(go_simp;done)|(go_simp;rfl));intro gb335 hg w16 hbox hb;have n0_ := Aside0.mk (blk_below (g := gb334) (o := .cells #[.int .i64 a0_0, .int .i64 a0_1] 26 (0, 0)) (by (with_reducible repeat (first|refine blk_drewN ?_ _|refine blk_drew ?_|refine blk_alloc ?_ _));exact BK334.out) hb);have n1_ := Aside0.mk (below_step (by repeat (first|(with_reducible first|exact HB.out|apply below_alloc|apply pw_below_drewN|apply below_drew1|refine below_set ?_ GE334.out)|exact HB.out)) hb);have n2_ := Aside0.mk (hbox);have n3_ := Aside0.mk ((by rw [hg];exact (below_size (by repeat (first|(with_reducible first|exact HB.out|apply below_alloc|apply pw_below_drewN|apply below_drew1|refine below_set ?_ GE334.out)|exact HB.out))) : w.heap.size ≤ gb335));have n4_ := Aside0.mk ((by rw [hg];exact (below_size (by repeat (first|(with_reducible first|exact HB.out|apply below_alloc|apply pw_below_drewN|apply below_drew1|refine below_set ?_ GE334.out)|exact HB.out))) : w.heap.size ≤ gb335));have n5_ := Aside0.mk ((by rw [hg];exact Nat.ne_of_lt (blk_lt (g := gb334) (o := .cells #[.int .i64 a0_0, .int .i64 a0_1] 26 (0, 0)) (by (with_reducible repeat (first|refine blk_drewN ?_ _|refine blk_drew ?_|refine blk_alloc ?_ _));exact BK334.out)) : gb334 ≠ gb335));have n6_ := Aside0.mk ((by rw [hg];exact Nat.ne_of_gt (blk_lt (g := gb334) (o := .cells #[.int .i64 a0_0, .int .i64 a0_1] 26 (0, 0)) (by (with_reducible repeat (first|refine blk_drewN ?_ _|refine blk_drew ?_|refine blk_alloc ?_ _));exact BK334.out)) : gb335 ≠ gb334));clear BK334;clear HB;have BK334 := n0_;have HB := n1_;have BK335 := n2_;have GW335 := n3_;have GE335 := n4_;have NB334_335 := n5_;have NB335_334 := n6_;clear n0_ n1_ n2_ n3_ n4_ n5_ n6_;clear hb hbox hg;have hnb17 := NB334_335.out;have hnc17 := NB335_334.out;have hcz18_0 : w16.cell? ⟨gb334, 0, none⟩ = some (.int .i64 a0_0) := (blk_cell BK334.out 0).trans rfl;have hcz18_1 : w16.cell? ⟨gb334, 1, none⟩ = some (.int .i64 a0_1) := (blk_cell BK334.out 1).trans rfl;have hfz18_0 := blk_frozen BK334.out 0;have hfz18_1 := blk_frozen BK334.out 1;have hcz19_0 : w16.cell? ⟨gb335, 0, none⟩ = some (.int .i64 a1_0) := (blk_cell BK335.out 0).trans rfl;have hcz19_1 : w16.cell? ⟨gb335, 1, none⟩ = some (.int .i64 a1_1) := (blk_cell BK335.out 1).trans rfl;have hfz19_0 := blk_frozen BK335.out 0;have hfz19_1 := blk_frozen BK335.out 1))
  go_ret
  exact ⟨by first|rfl|(simp [errW_none, errW_some] <;> rfl)|(simp [*, errW_none, errW_some] <;> rfl), by repeat (first|(with_reducible first|exact HB.out|apply below_alloc|apply pw_below_drewN|apply below_drew1|refine below_set ?_ GE334.out|refine below_set ?_ GE335.out)|exact HB.out)⟩
def laws_eqRatioS.l0 : Nat → List (S26) → List (S26) → Int → Option (Bool)
 | 0, _, _, _ => none
 | k + 1, x0, x1, x5 => if x5 < (x0.length : Int) then (if 0 ≤ x5 then (if x5 < (x1.length : Int) then ((laws_eqRatio.f ((rd_T26 x0 x5).f0) ((rd_T26 x0 x5).f1) ((rd_T26 x1 x5).f0) ((rd_T26 x1 x5).f1)).bind fun t338 => (if t338 = true then (laws_eqRatioS.l0 k x0 x1 (wrap64 (x5 + 1))) else (some false))) else (none)) else (none)) else (some true)
def laws_eqRatioS.f (k : Nat) (l0 : List (S26)) (l1 : List (S26)) : Option (Bool) := if (l0.length : Int) = (l1.length : Int) then (laws_eqRatioS.l0 k l0 l1 0) else (some false)
theorem laws_eqRatioS.mono_l : ∀ k, (∀ y0 y1 y2, LeO (laws_eqRatioS.l0 k y0 y1 y2) (laws_eqRatioS.l0 (k + 1) y0 y1 y2))
|0 => fun _ _ _ r h => by simp [laws_eqRatioS.l0] at h
|k + 1 => by
  have ih0 := laws_eqRatioS.mono_l k
  ·intro y0 y1 y2
   unfold laws_eqRatioS.l0
   repeat' first
  |(with_reducible exact ih0 _ _ _)
  |(with_reducible exact LeO.refl _)
  |(with_reducible exact LeO.none _)
  |(with_reducible refine LeO.ite ?_ ?_)
  |(with_reducible refine LeO.bind ?_ (fun _ => ?_))
  |exact ih0 _ _ _
  |exact LeO.none _
  |refine LeO.ite ?_ ?_
  |refine LeO.bind ?_ (fun _ => ?_)
theorem laws_eqRatioS.mono : ∀ a0 a1 k, LeO (laws_eqRatioS.f k a0 a1) (laws_eqRatioS.f (k + 1) a0 a1) := by
 intro a0 a1 k
 have ih0 := laws_eqRatioS.mono_l k
 unfold laws_eqRatioS.f
 repeat' first
  |(with_reducible exact ih0 _ _ _)
  |(with_reducible exact LeO.refl _)
  |(with_reducible exact LeO.none _)
  |(with_reducible refine LeO.ite ?_ ?_)
  |(with_reducible refine LeO.bind ?_ (fun _ => ?_))
  |exact ih0 _ _ _
  |exact LeO.none _
  |refine LeO.ite ?_ ?_
  |refine LeO.bind ?_ (fun _ => ?_)
def laws_eqRatioS.T6 : Bool × List (List Nat × List Nat) := (true, [([], []), ([], []), ([0, 1], [0, 1]), ([2], [2]), ([], []), ([], []), ([4, 5], [4, 5]), ([6], [6]), ([3, 7], [3, 7]), ([8], [8])])
def laws_eqRatioS.B6 : List Nat := [0, 0, 3, 7, 0, 0, 48, 112, 255, 511]
theorem laws_eqRatioS.tab6 : rtab .any (opsOf Try.f33 6) = laws_eqRatioS.T6 := by kernel_rfl
theorem laws_eqRatioS.bits6 : waitsOk laws_eqRatioS.T6.2 laws_eqRatioS.B6 = true := by kernel_rfl
set_option maxHeartbeats 8000000 in
set_option maxRecDepth 100000 in
theorem laws_eqRatioS.calls (k : Nat) (A0 : Option Addr) (c0 : Nat) (l0 : List (S26)) (A1 : Option Addr) (c1 : Nat) (l1 : List (S26)) (r : Bool) (w : World) (hr0 : Kd.C k26 w A0 l0.length l0) (hc0 : l0.length ≤ c0) (hr1 : Kd.C k26 w A1 l1.length l1) (hc1 : l1.length ≤ c1) (h : laws_eqRatioS.f k l0 l1 = some r) :
  Calls Try.prog 33 #[.slice A0 l0.length c0, .slice A1 l1.length c1] w fun e w' => e = .returned (.bool r) ∧ Below w.heap.size w w' := by
 have hu26 := Try.underlying26
 have HR0 := Aside0.mk hr0
 have HC0 := Aside0.mk hc0
 clear hr0 hc0
 have HR1 := Aside0.mk hr1
 have HC1 := Aside0.mk hc1
 clear hr1 hc1
 have HB := Aside0.mk (Below.refl w.heap.size w)
 have H : (if (l0.length : Int) = (l1.length : Int) then (laws_eqRatioS.l0 k l0 l1 0) else (some false)) = some r := h
 clear h
 by_cases c3 : (l0.length : Int) = (l1.length : Int)
 ·rw [if_pos c3] at H
  have c3b0 : ((l0.length : Int) == (l1.length : Int)) = true := beq_iff_eq.mpr c3
  have c3b1 : ((l0.length : Int) != (l1.length : Int)) = false := bne_eq_false_iff_eq.mpr c3
  have c3b2 : (l0.length == l1.length) = true := by first|simpa using c3|(simp at c3 ⊢;omega)
  clear c3
  have H' := Aside0.mk H
  clear H
  go_enter Try.func33, Try.ntmps33
  go_wp2
  go_loopg [5] k (fun kq v5 w' => ∃ (x5_1 : Int), v5 = .int .i64 x5_1 ∧ Aside0 (laws_eqRatioS.l0 kq l0 l1 x5_1 = some r) ∧ Aside0 (kq ≤ k) ∧ Aside0 (Below w.heap.size w w'))
  case atStart => exact ⟨(0), (by first|rfl|(simp;done)|(simp [*];done)), H', ⟨Nat.le_refl _⟩, ⟨by repeat (first|(with_reducible first|exact HB.out|apply below_alloc|apply pw_below_drewN|apply below_drew1)|exact HB.out)⟩⟩
  case round =>
   clear H'
   try clear c1
   try clear p2
   try clear c3
   try clear c3b0
   try clear c3b1
   try clear c3b2
   obtain ⟨x5_1, rfl, HA, HK1, HB⟩ := hrel
   cases gk with
  |zero => exact absurd HA.out (by simp [laws_eqRatioS.l0])
  |succ k1 =>
    have H := HA.out
    clear HA
    simp only [laws_eqRatioS.l0] at H
    by_cases c4 : x5_1 < (l0.length : Int)
    ·rw [if_pos c4] at H
     have c4b0 : decide (x5_1 < (l0.length : Int)) = true := decide_eq_true c4
     clear c4
     by_cases c5 : 0 ≤ x5_1
     ·rw [if_pos c5] at H
      have c5b0 : decide (0 ≤ x5_1) = true := decide_eq_true c5
      clear c5
      by_cases c6 : x5_1 < (l1.length : Int)
      ·rw [if_pos c6] at H
       have c6b0 : decide (x5_1 < (l1.length : Int)) = true := decide_eq_true c6
       clear c6
       replace H := Option.bind_eq_some_iff.mp H
       obtain ⟨t338, A70, H⟩ := H
       replace H : (if t338 = true then (laws_eqRatioS.l0 k1 l0 l1 (wrap64 (x5_1 + 1))) else (some false)) = some r := H
       have A7 := Aside0.mk A70
       clear A70
       by_cases c8 : t338 = true
       ·subst c8
        have H1 : (laws_eqRatioS.l0 k1 l0 l1 (wrap64 (x5_1 + 1))) = some r := by rw [if_pos rfl] at H;exact H
        clear H
        have H := H1
        clear H1
        have H' := Aside0.mk H
        clear H
        try go_wp2
        have n0_ := Aside0.mk (below_drew1 HB.out)
        clear HB
        have HB := n0_
        clear n0_
        have p336 : 0 ≤ (x5_1 : Int) := of_decide_eq_true (by first|(with_reducible assumption)|assumption)
        have q336 : x5_1 < (l0.length : Int) := of_decide_eq_true (by first|(with_reducible assumption)|assumption)
        obtain ⟨ad336, e336, hx336_0, hx336_1⟩ := at_T26 HR0.out x5_1 p336 q336
        have hw336_1 := hx336_1
        have hw336_0 := hx336_0
        cases e336
        replace hx336_0 := (HB.out.cell (World.block_lt_of_cell? w _ hx336_0)).trans hx336_0
        replace hx336_1 := (HB.out.cell (World.block_lt_of_cell? w _ hx336_1)).trans hx336_1
        replace p336 := eq_true p336
        replace q336 := eq_true q336
        have p337 : 0 ≤ (x5_1 : Int) := of_decide_eq_true (by first|(with_reducible assumption)|assumption)
        have q337 : x5_1 < (l1.length : Int) := of_decide_eq_true (by first|(with_reducible assumption)|assumption)
        obtain ⟨ad337, e337, hx337_0, hx337_1⟩ := at_T26 HR1.out x5_1 p337 q337
        have hw337_1 := hx337_1
        have hw337_0 := hx337_0
        cases e337
        replace hx337_0 := (HB.out.cell (World.block_lt_of_cell? w _ hx337_0)).trans hx337_0
        replace hx337_1 := (HB.out.cell (World.block_lt_of_cell? w _ hx337_1)).trans hx337_1
        replace p337 := eq_true p337
        replace q337 := eq_true q337
        refine start_ (n := 10) (S := fun w' => w'.cell? (ad336.add ((x5_1).toNat * 2)) = some (.int .i64 ((rd_T26 l0 x5_1).f0)) ∧ w'.cell? ⟨(ad336.add ((x5_1).toNat * 2)).block, (ad336.add ((x5_1).toNat * 2)).off + 1, none⟩ = some (.int .i64 ((rd_T26 l0 x5_1).f1)) ∧ w'.cell? (ad337.add ((x5_1).toNat * 2)) = some (.int .i64 ((rd_T26 l1 x5_1).f0)) ∧ w'.cell? ⟨(ad337.add ((x5_1).toNat * 2)).block, (ad337.add ((x5_1).toNat * 2)).off + 1, none⟩ = some (.int .i64 ((rd_T26 l1 x5_1).f1))) (ds := []) #[false, false, false, false, false, false, false, false, false, false] (by kernel_rfl) rfl rfl ⟨((HB.out.cell (World.block_lt_of_cell? w _ hw336_0)).trans hw336_0), ((HB.out.cell (World.block_lt_of_cell? w _ hw336_1)).trans hw336_1), ((HB.out.cell (World.block_lt_of_cell? w _ hw337_0)).trans hw337_0), ((HB.out.cell (World.block_lt_of_cell? w _ hw337_1)).trans hw337_1)⟩ (fun hHeld => ?_);refine with_tabW laws_eqRatioS.tab6 laws_eqRatioS.bits6 (fun HT_ HW_ => ?_)
        generalize wr.drew = w9 at HB hx336_0 hx336_1 hx337_0 hx337_1 hHeld ⊢
        refine pure_ (i := 0) (N := some 17) (v := ?_) (a' := ?_) #[true, false, false, false, false, false, false, false, false, false] rfl rfl (any_of HT_.out (by kernel_rfl)) (fun _ _ _ h => h) (Or.inl ⟨by rfl, ?_⟩) ?_ ?_
        rotate_left
        ·intro w'
         go_simp
         with_reducible rfl
        rotate_left
        ·simp only [Act.put, List.setIfInBounds_toArray, List.set_cons_zero, List.set_cons_succ, i64_w, i32_w]
         rfl
        refine pure_ (i := 1) (N := some 18) (v := ?_) (a' := ?_) #[true, true, false, false, false, false, false, false, false, false] rfl rfl (any_of HT_.out (by kernel_rfl)) (fun _ _ _ h => h) (Or.inl ⟨by rfl, ?_⟩) ?_ ?_
        rotate_left
        ·intro w'
         go_simp
         with_reducible rfl
        rotate_left
        ·simp only [Act.put, List.setIfInBounds_toArray, List.set_cons_zero, List.set_cons_succ, i64_w, i32_w]
         rfl
        refine pure_ (i := 2) (N := some 19) (v := ?_) (a' := ?_) #[true, true, true, false, false, false, false, false, false, false] rfl rfl (any_of HT_.out (by kernel_rfl)) (fun _ _ _ h => h) (Or.inl ⟨by rfl, ?_⟩) ?_ ?_
        rotate_left
        ·intro w'
         go_simp
         with_reducible rfl
        rotate_left
        ·simp only [Act.put, List.setIfInBounds_toArray, List.set_cons_zero, List.set_cons_succ, i64_w, i32_w]
         rfl
        refine pure_ (i := 4) (N := some 21) (v := ?_) (a' := ?_) #[true, true, true, false, true, false, false, false, false, false] rfl rfl (any_of HT_.out (by kernel_rfl)) (fun _ _ _ h => h) (Or.inl ⟨by rfl, ?_⟩) ?_ ?_
        rotate_left
        ·intro w'
         go_simp
         with_reducible rfl
        rotate_left
        ·simp only [Act.put, List.setIfInBounds_toArray, List.set_cons_zero, List.set_cons_succ, i64_w, i32_w]
         rfl
        refine pure_ (i := 5) (N := some 22) (v := ?_) (a' := ?_) #[true, true, true, false, true, true, false, false, false, false] rfl rfl (any_of HT_.out (by kernel_rfl)) (fun _ _ _ h => h) (Or.inl ⟨by rfl, ?_⟩) ?_ ?_
        rotate_left
        ·intro w'
         go_simp
         with_reducible rfl
        rotate_left
        ·simp only [Act.put, List.setIfInBounds_toArray, List.set_cons_zero, List.set_cons_succ, i64_w, i32_w]
         rfl
        refine pure_ (i := 6) (N := some 23) (v := ?_) (a' := ?_) #[true, true, true, false, true, true, true, false, false, false] rfl rfl (any_of HT_.out (by kernel_rfl)) (fun _ _ _ h => h) (Or.inl ⟨by rfl, ?_⟩) ?_ ?_
        rotate_left
        ·intro w'
         go_simp
         with_reducible rfl
        rotate_left
        ·simp only [Act.put, List.setIfInBounds_toArray, List.set_cons_zero, List.set_cons_succ, i64_w, i32_w]
         rfl
        refine take_ (i := 3) (N := some 20) (v := ?_) (a' := ?_) #[true, true, true, true, true, true, true, false, false, false] rfl rfl (take_ofW HT_.out HW_.out (by kernel_rfl)) (fun _ _ _ h => h) (Or.inl ⟨by rfl, ?_⟩) hHeld ?_ ?_
        rotate_left
        ·rintro w' ⟨s0, s1, s2, s3⟩
         go_simp
         with_reducible rfl
        rotate_left
        ·simp only [Act.put, List.setIfInBounds_toArray, List.set_cons_zero, List.set_cons_succ, i64_w, i32_w]
         rfl
        refine take_ (i := 7) (N := some 24) (v := ?_) (a' := ?_) #[true, true, true, true, true, true, true, true, false, false] rfl rfl (take_ofW HT_.out HW_.out (by kernel_rfl)) (fun _ _ _ h => h) (Or.inl ⟨by rfl, ?_⟩) hHeld ?_ ?_
        rotate_left
        ·rintro w' ⟨s0, s1, s2, s3⟩
         go_simp
         with_reducible rfl
        rotate_left
        ·simp only [Act.put, List.setIfInBounds_toArray, List.set_cons_zero, List.set_cons_succ, i64_w, i32_w]
         rfl
        refine one_ (i := 8) (N := some 25) #[true, true, true, true, true, true, true, true, true, false] rfl rfl (one_of HT_.out (by kernel_rfl)) (by decide) (fun K hK => ?_)
        refine goes_ Try.func20 (by kernel_rfl) rfl #[.agg #[.int .i64 ((rd_T26 l0 x5_1).f0), .int .i64 ((rd_T26 l0 x5_1).f1)], .agg #[.int .i64 ((rd_T26 l1 x5_1).f0), .int .i64 ((rd_T26 l1 x5_1).f1)]] (by rfl) rfl rfl (by (try simp only [List.map_toArray, List.map_cons, List.map_nil]);first|done|rfl|(simp only [List.length_drop, List.length_take];rfl)) ?_
        with_reducible refine (laws_eqRatio.calls ((rd_T26 l0 x5_1).f0) ((rd_T26 l0 x5_1).f1) ((rd_T26 l1 x5_1).f0) ((rd_T26 l1 x5_1).f1) true _ A7.out).mono ?_
        rintro e w10 ⟨rfl, hb⟩
        refine ⟨_, rfl, ?_⟩
        have n0_ := Aside0.mk (below_step (by repeat first|(with_reducible first|exact HB.out|apply below_alloc|apply pw_below_drewN|apply below_drew1)|exact HB.out) hb)
        clear HB
        have HB := n0_
        clear n0_
        (try clear hb)
        (try clear hb2)
        (try clear hk)
        (try clear hi)
        refine hK.out _ _ ⟨((HB.out.cell (World.block_lt_of_cell? w _ hw336_0)).trans hw336_0), ((HB.out.cell (World.block_lt_of_cell? w _ hw336_1)).trans hw336_1), ((HB.out.cell (World.block_lt_of_cell? w _ hw337_0)).trans hw337_0), ((HB.out.cell (World.block_lt_of_cell? w _ hw337_1)).trans hw337_1)⟩ (fun hHeld => ?_)
        clear hK K
        refine norm_ (a' := ?_) ?_ ?_
        rotate_left
        ·show Act.put _ (some 25) _ = _
         simp only [Act.put, List.setIfInBounds_toArray, List.set_cons_zero, List.set_cons_succ, i64_w, i32_w]
         rfl
        refine pure_ (i := 9) (N := some 26) (v := ?_) (a' := ?_) #[true, true, true, true, true, true, true, true, true, true] rfl rfl (any_of HT_.out (by kernel_rfl)) (fun _ _ _ h => h) (Or.inl ⟨by rfl, ?_⟩) ?_ ?_
        rotate_left
        ·intro w'
         go_simp
         with_reducible rfl
        rotate_left
        ·simp only [Act.put, List.setIfInBounds_toArray, List.set_cons_zero, List.set_cons_succ, i64_w, i32_w]
         rfl
        refine done_ (done_of HT_.out (by kernel_rfl)) ?_
        try go_wp2
        go_roundg k1
        case measure => have := HK1.out;omega
        case rel => exact ⟨(wrap64 (x5_1 + 1)), (by first|rfl|(simp;done)|(simp [*];done)), H', ⟨by have := HK1.out;omega⟩, ⟨by repeat (first|(with_reducible first|exact HB.out|apply below_alloc|apply pw_below_drewN|apply below_drew1)|exact HB.out)⟩⟩
       ·replace c8 := Bool.eq_false_iff.mpr c8
        subst c8
        have H1 : (some false) = some r := by rw [if_neg (show ¬ (false = true) by decide)] at H;exact H
        clear H
        have H := H1
        clear H1
        obtain rfl := Option.some.inj H
        try go_wp2
        have n0_ := Aside0.mk (below_drew1 HB.out)
        clear HB
        have HB := n0_
        clear n0_
        have p336 : 0 ≤ (x5_1 : Int) := of_decide_eq_true (by first|(with_reducible assumption)|assumption)
        have q336 : x5_1 < (l0.length : Int) := of_decide_eq_true (by first|(with_reducible assumption)|assumption)
        obtain ⟨ad336, e336, hx336_0, hx336_1⟩ := at_T26 HR0.out x5_1 p336 q336
        have hw336_1 := hx336_1
        have hw336_0 := hx336_0
        cases e336
        replace hx336_0 := (HB.out.cell (World.block_lt_of_cell? w _ hx336_0)).trans hx336_0
        replace hx336_1 := (HB.out.cell (World.block_lt_of_cell? w _ hx336_1)).trans hx336_1
        replace p336 := eq_true p336
        replace q336 := eq_true q336
        have p337 : 0 ≤ (x5_1 : Int) := of_decide_eq_true (by first|(with_reducible assumption)|assumption)
        have q337 : x5_1 < (l1.length : Int) := of_decide_eq_true (by first|(with_reducible assumption)|assumption)
        obtain ⟨ad337, e337, hx337_0, hx337_1⟩ := at_T26 HR1.out x5_1 p337 q337
        have hw337_1 := hx337_1
        have hw337_0 := hx337_0
        cases e337
        replace hx337_0 := (HB.out.cell (World.block_lt_of_cell? w _ hx337_0)).trans hx337_0
        replace hx337_1 := (HB.out.cell (World.block_lt_of_cell? w _ hx337_1)).trans hx337_1
        replace p337 := eq_true p337
        replace q337 := eq_true q337
        refine start_ (n := 10) (S := fun w' => w'.cell? (ad336.add ((x5_1).toNat * 2)) = some (.int .i64 ((rd_T26 l0 x5_1).f0)) ∧ w'.cell? ⟨(ad336.add ((x5_1).toNat * 2)).block, (ad336.add ((x5_1).toNat * 2)).off + 1, none⟩ = some (.int .i64 ((rd_T26 l0 x5_1).f1)) ∧ w'.cell? (ad337.add ((x5_1).toNat * 2)) = some (.int .i64 ((rd_T26 l1 x5_1).f0)) ∧ w'.cell? ⟨(ad337.add ((x5_1).toNat * 2)).block, (ad337.add ((x5_1).toNat * 2)).off + 1, none⟩ = some (.int .i64 ((rd_T26 l1 x5_1).f1))) (ds := []) #[false, false, false, false, false, false, false, false, false, false] (by kernel_rfl) rfl rfl ⟨((HB.out.cell (World.block_lt_of_cell? w _ hw336_0)).trans hw336_0), ((HB.out.cell (World.block_lt_of_cell? w _ hw336_1)).trans hw336_1), ((HB.out.cell (World.block_lt_of_cell? w _ hw337_0)).trans hw337_0), ((HB.out.cell (World.block_lt_of_cell? w _ hw337_1)).trans hw337_1)⟩ (fun hHeld => ?_);refine with_tabW laws_eqRatioS.tab6 laws_eqRatioS.bits6 (fun HT_ HW_ => ?_)
        generalize wr.drew = w11 at HB hx336_0 hx336_1 hx337_0 hx337_1 hHeld ⊢
        refine pure_ (i := 0) (N := some 17) (v := ?_) (a' := ?_) #[true, false, false, false, false, false, false, false, false, false] rfl rfl (any_of HT_.out (by kernel_rfl)) (fun _ _ _ h => h) (Or.inl ⟨by rfl, ?_⟩) ?_ ?_
        rotate_left
        ·intro w'
         go_simp
         with_reducible rfl
        rotate_left
        ·simp only [Act.put, List.setIfInBounds_toArray, List.set_cons_zero, List.set_cons_succ, i64_w, i32_w]
         rfl
        refine pure_ (i := 1) (N := some 18) (v := ?_) (a' := ?_) #[true, true, false, false, false, false, false, false, false, false] rfl rfl (any_of HT_.out (by kernel_rfl)) (fun _ _ _ h => h) (Or.inl ⟨by rfl, ?_⟩) ?_ ?_
        rotate_left
        ·intro w'
         go_simp
         with_reducible rfl
        rotate_left
        ·simp only [Act.put, List.setIfInBounds_toArray, List.set_cons_zero, List.set_cons_succ, i64_w, i32_w]
         rfl
        refine pure_ (i := 2) (N := some 19) (v := ?_) (a' := ?_) #[true, true, true, false, false, false, false, false, false, false] rfl rfl (any_of HT_.out (by kernel_rfl)) (fun _ _ _ h => h) (Or.inl ⟨by rfl, ?_⟩) ?_ ?_
        rotate_left
        ·intro w'
         go_simp
         with_reducible rfl
        rotate_left
        ·simp only [Act.put, List.setIfInBounds_toArray, List.set_cons_zero, List.set_cons_succ, i64_w, i32_w]
         rfl
        refine pure_ (i := 4) (N := some 21) (v := ?_) (a' := ?_) #[true, true, true, false, true, false, false, false, false, false] rfl rfl (any_of HT_.out (by kernel_rfl)) (fun _ _ _ h => h) (Or.inl ⟨by rfl, ?_⟩) ?_ ?_
        rotate_left
        ·intro w'
         go_simp
         with_reducible rfl
        rotate_left
        ·simp only [Act.put, List.setIfInBounds_toArray, List.set_cons_zero, List.set_cons_succ, i64_w, i32_w]
         rfl
        refine pure_ (i := 5) (N := some 22) (v := ?_) (a' := ?_) #[true, true, true, false, true, true, false, false, false, false] rfl rfl (any_of HT_.out (by kernel_rfl)) (fun _ _ _ h => h) (Or.inl ⟨by rfl, ?_⟩) ?_ ?_
        rotate_left
        ·intro w'
         go_simp
         with_reducible rfl
        rotate_left
        ·simp only [Act.put, List.setIfInBounds_toArray, List.set_cons_zero, List.set_cons_succ, i64_w, i32_w]
         rfl
        refine pure_ (i := 6) (N := some 23) (v := ?_) (a' := ?_) #[true, true, true, false, true, true, true, false, false, false] rfl rfl (any_of HT_.out (by kernel_rfl)) (fun _ _ _ h => h) (Or.inl ⟨by rfl, ?_⟩) ?_ ?_
        rotate_left
        ·intro w'
         go_simp
         with_reducible rfl
        rotate_left
        ·simp only [Act.put, List.setIfInBounds_toArray, List.set_cons_zero, List.set_cons_succ, i64_w, i32_w]
         rfl
        refine take_ (i := 3) (N := some 20) (v := ?_) (a' := ?_) #[true, true, true, true, true, true, true, false, false, false] rfl rfl (take_ofW HT_.out HW_.out (by kernel_rfl)) (fun _ _ _ h => h) (Or.inl ⟨by rfl, ?_⟩) hHeld ?_ ?_
        rotate_left
        ·rintro w' ⟨s0, s1, s2, s3⟩
         go_simp
         with_reducible rfl
        rotate_left
        ·simp only [Act.put, List.setIfInBounds_toArray, List.set_cons_zero, List.set_cons_succ, i64_w, i32_w]
         rfl
        refine take_ (i := 7) (N := some 24) (v := ?_) (a' := ?_) #[true, true, true, true, true, true, true, true, false, false] rfl rfl (take_ofW HT_.out HW_.out (by kernel_rfl)) (fun _ _ _ h => h) (Or.inl ⟨by rfl, ?_⟩) hHeld ?_ ?_
        rotate_left
        ·rintro w' ⟨s0, s1, s2, s3⟩
         go_simp
         with_reducible rfl
        rotate_left
        ·simp only [Act.put, List.setIfInBounds_toArray, List.set_cons_zero, List.set_cons_succ, i64_w, i32_w]
         rfl
        refine one_ (i := 8) (N := some 25) #[true, true, true, true, true, true, true, true, true, false] rfl rfl (one_of HT_.out (by kernel_rfl)) (by decide) (fun K hK => ?_)
        refine goes_ Try.func20 (by kernel_rfl) rfl #[.agg #[.int .i64 ((rd_T26 l0 x5_1).f0), .int .i64 ((rd_T26 l0 x5_1).f1)], .agg #[.int .i64 ((rd_T26 l1 x5_1).f0), .int .i64 ((rd_T26 l1 x5_1).f1)]] (by rfl) rfl rfl (by (try simp only [List.map_toArray, List.map_cons, List.map_nil]);first|done|rfl|(simp only [List.length_drop, List.length_take];rfl)) ?_
        with_reducible refine (laws_eqRatio.calls ((rd_T26 l0 x5_1).f0) ((rd_T26 l0 x5_1).f1) ((rd_T26 l1 x5_1).f0) ((rd_T26 l1 x5_1).f1) false _ A7.out).mono ?_
        rintro e w12 ⟨rfl, hb⟩
        refine ⟨_, rfl, ?_⟩
        have n0_ := Aside0.mk (below_step (by repeat first|(with_reducible first|exact HB.out|apply below_alloc|apply pw_below_drewN|apply below_drew1)|exact HB.out) hb)
        clear HB
        have HB := n0_
        clear n0_
        (try clear hb)
        (try clear hb2)
        (try clear hk)
        (try clear hi)
        refine hK.out _ _ ⟨((HB.out.cell (World.block_lt_of_cell? w _ hw336_0)).trans hw336_0), ((HB.out.cell (World.block_lt_of_cell? w _ hw336_1)).trans hw336_1), ((HB.out.cell (World.block_lt_of_cell? w _ hw337_0)).trans hw337_0), ((HB.out.cell (World.block_lt_of_cell? w _ hw337_1)).trans hw337_1)⟩ (fun hHeld => ?_)
        clear hK K
        refine norm_ (a' := ?_) ?_ ?_
        rotate_left
        ·show Act.put _ (some 25) _ = _
         simp only [Act.put, List.setIfInBounds_toArray, List.set_cons_zero, List.set_cons_succ, i64_w, i32_w]
         rfl
        refine pure_ (i := 9) (N := some 26) (v := ?_) (a' := ?_) #[true, true, true, true, true, true, true, true, true, true] rfl rfl (any_of HT_.out (by kernel_rfl)) (fun _ _ _ h => h) (Or.inl ⟨by rfl, ?_⟩) ?_ ?_
        rotate_left
        ·intro w'
         go_simp
         with_reducible rfl
        rotate_left
        ·simp only [Act.put, List.setIfInBounds_toArray, List.set_cons_zero, List.set_cons_succ, i64_w, i32_w]
         rfl
        refine done_ (done_of HT_.out (by kernel_rfl)) ?_
        try go_wp2
        go_ret
        exact ⟨by first|rfl|(simp [errW_none, errW_some] <;> rfl)|(simp [*, errW_none, errW_some] <;> rfl), by repeat (first|(with_reducible first|exact HB.out|apply below_alloc|apply pw_below_drewN|apply below_drew1)|exact HB.out)⟩
      ·rw [if_neg c6] at H
       exact absurd H (by simp)
     ·rw [if_neg c5] at H
      exact absurd H (by simp)
    ·rw [if_neg c4] at H
     have c4b0 : decide (x5_1 < (l0.length : Int)) = false := decide_eq_false c4
     clear c4
     obtain rfl := Option.some.inj H
     go_wp2
     go_ret
     exact ⟨by first|rfl|(simp [errW_none, errW_some] <;> rfl)|(simp [*, errW_none, errW_some] <;> rfl), by repeat (first|(with_reducible first|exact HB.out|apply below_alloc|apply pw_below_drewN|apply below_drew1)|exact HB.out)⟩
 ·rw [if_neg c3] at H
  have c3b0 : ((l0.length : Int) == (l1.length : Int)) = false := beq_eq_false_iff_ne.mpr c3
  have c3b1 : ((l0.length : Int) != (l1.length : Int)) = true := bne_iff_ne.mpr c3
  have c3b2 : (l0.length == l1.length) = false := by first|simpa using c3|(simp at c3 ⊢;omega)
  obtain rfl := Option.some.inj H
  go_enter Try.func33, Try.ntmps33
  go_wp2
  go_ret
  exact ⟨by first|rfl|(simp [errW_none, errW_some] <;> rfl)|(simp [*, errW_none, errW_some] <;> rfl), by repeat (first|(with_reducible first|exact HB.out|apply below_alloc|apply pw_below_drewN|apply below_drew1)|exact HB.out)⟩
def laws_markIntS.l0 : Nat → List Int → Int → Int → Option (Int × List Int)
 | 0, _, _, _ => none
 | k + 1, x0, x1, x5 => if x5 < (x0.length : Int) then (if 0 ≤ x5 then (laws_markIntS.l0 k (x0.set (x5 : Int).toNat x1) (wrap64 (x1 + 1)) (wrap64 (x5 + 1))) else (none)) else (some (x1, x0))
def laws_markIntS.f (k : Nat) (l0 : List Int) (a1 : Int) : Option (Int × List Int) := laws_markIntS.l0 k l0 a1 0
theorem laws_markIntS.mono_l : ∀ k, (∀ y0 y1 y2, LeO (laws_markIntS.l0 k y0 y1 y2) (laws_markIntS.l0 (k + 1) y0 y1 y2))
|0 => fun _ _ _ r h => by simp [laws_markIntS.l0] at h
|k + 1 => by
  have ih0 := laws_markIntS.mono_l k
  ·intro y0 y1 y2
   unfold laws_markIntS.l0
   repeat' first
  |(with_reducible exact ih0 _ _ _)
  |(with_reducible exact LeO.refl _)
  |(with_reducible exact LeO.none _)
  |(with_reducible refine LeO.ite ?_ ?_)
  |(with_reducible refine LeO.bind ?_ (fun _ => ?_))
  |exact ih0 _ _ _
  |exact LeO.none _
  |refine LeO.ite ?_ ?_
  |refine LeO.bind ?_ (fun _ => ?_)
theorem laws_markIntS.mono : ∀ a0 a1 k, LeO (laws_markIntS.f k a0 a1) (laws_markIntS.f (k + 1) a0 a1) := by
 intro a0 a1 k
 have ih0 := laws_markIntS.mono_l k
 unfold laws_markIntS.f
 repeat' first
  |(with_reducible exact ih0 _ _ _)
  |(with_reducible exact LeO.refl _)
  |(with_reducible exact LeO.none _)
  |(with_reducible refine LeO.ite ?_ ?_)
  |(with_reducible refine LeO.bind ?_ (fun _ => ?_))
  |exact ih0 _ _ _
  |exact LeO.none _
  |refine LeO.ite ?_ ?_
  |refine LeO.bind ?_ (fun _ => ?_)
set_option maxHeartbeats 8000000 in
set_option maxRecDepth 100000 in
theorem laws_markIntS.calls (k : Nat) (P0_ : Nat → Prop) (u9000_ : Value) (l0 : List Int) (a1 : Int) (r1 : Int) (r2 : List Int) (w0 w : World) (hB : Below w0.heap.size w0 w) (ho0 : Kd.R (Kd.int .i64) 3 w w0.heap.size P0_ u9000_ l0) (h : laws_markIntS.f k l0 a1 = some (r1, r2)) :
  Calls Try.prog 35 #[u9000_, .int .i64 a1] w fun e w' => e = .returned (.int .i64 r1) ∧ Kd.R (Kd.int .i64) 3 w' w0.heap.size (fun k_ => (P0_ k_ ∨ w.heap.size ≤ k_)) u9000_ r2 ∧ Below w0.heap.size w0 w' ∧ Kept w w' (fun k_ => P0_ k_) := by
 have HO0 := Aside0.mk (show Kd.R (Kd.int .i64) 3 w w0.heap.size (fun k_ => (P0_ k_ ∨ w.heap.size ≤ k_)) u9000_ l0 from Kd.R_mono ho0 (fun k_ hk => (.inl hk)))
 have HK := Aside0.mk (Kept.refl w (fun k_ => P0_ k_))
 have HW0 := Aside0.mk hB.size
 have HB := Aside0.mk hB
 clear hB
 have H : (laws_markIntS.l0 k l0 a1 0) = some (r1, r2) := h
 clear h
 have H' := Aside0.mk H
 clear H
 go_enter Try.func35, Try.ntmps35
 go_wp2
 go_loopg [1, 5] k (fun kq v1 v5 w' => ∃ (x0_1 : List Int) (x1_1 : Int) (x5_1 : Int), v1 = .int .i64 x1_1 ∧ v5 = .int .i64 x5_1 ∧ Aside0 (laws_markIntS.l0 kq x0_1 x1_1 x5_1 = some (r1, r2)) ∧ Aside0 (kq ≤ k) ∧ Aside0 (Kd.R (Kd.int .i64) 3 w' w0.heap.size (fun k_ => (P0_ k_ ∨ w.heap.size ≤ k_)) u9000_ x0_1) ∧ Aside0 (Kept w w' (fun k_ => P0_ k_)) ∧ Aside0 (Below w0.heap.size w0 w'))
 case atStart => exact ⟨(l0), (a1), (0), (by first|rfl|(simp;done)|(simp [*];done)), (by first|rfl|(simp;done)|(simp [*];done)), H', ⟨Nat.le_refl _⟩, ⟨by (with_reducible repeat (first|apply Kd.R_alloc|apply Kd.R_drewN|apply Kd.R_drew));exact HO0.out⟩, ⟨by repeat (first|(with_reducible first|exact HK.out|apply Kept.alloc|apply Kept.drewN|apply Kept.drew)|exact HK.out)⟩, ⟨by repeat (first|(with_reducible first|exact HB.out|apply below_alloc|apply pw_below_drewN|apply below_drew1)|exact HB.out)⟩⟩
 case round =>
  clear H'
  try clear p2
  obtain ⟨x0_1, x1_1, x5_1, rfl, rfl, HA, HK1, HO_0, HK, HB⟩ := hrel
  cases gk with
 |zero => exact absurd HA.out (by simp [laws_markIntS.l0])
 |succ k1 =>
   have H := HA.out
   clear HA
   simp only [laws_markIntS.l0] at H
   by_cases c3 : x5_1 < (x0_1.length : Int)
   ·rw [if_pos c3] at H
    have c3b0 : decide (x5_1 < (x0_1.length : Int)) = true := decide_eq_true c3
    clear c3
    by_cases c4 : 0 ≤ x5_1
    ·rw [if_pos c4] at H
     have c4b0 : decide (0 ≤ x5_1) = true := decide_eq_true c4
     clear c4
     obtain ⟨y339, hy339⟩ : ∃ y_ : List Int, y_ = (x0_1.set (x5_1 : Int).toNat x1_1) := ⟨_, rfl⟩
     replace H : (laws_markIntS.l0 k1 y339 (wrap64 (x1_1 + 1)) (wrap64 (x5_1 + 1))) = some (r1, r2) := by first|(rw [hy339];with_reducible exact H)|(have H2_ := (Option.bind_some _ _).symm.trans H;rw [hy339];with_reducible exact H2_)|(have H2_ := (Option.bind_some _ _).symm.trans H;with_reducible exact H2_)|with_reducible exact H|(rw [hy339];exact H)|exact H
     have Ny339 := Aside0.mk hy339
     clear hy339
     have H' := Aside0.mk H
     clear H
     obtain ⟨Ao6, co6, eo6⟩ := Kd.R_slice HO_0.out
     subst eo6
     have p5 : 0 ≤ (x5_1 : Int) := of_decide_eq_true (by first|(with_reducible assumption)|assumption)
     have q5 : (x5_1 : Int) < ((x0_1.length : Int) : Int) := of_decide_eq_true (by first|(with_reducible assumption)|assumption)
     obtain ⟨go5, co5, eo5, gb5, gl5, cl5, HG5⟩ := Kd.R_form HO_0.out (by omega)
     (first|cases eo5|(injection eo5 with ea_ en_ ec_;(first|subst ea_|(injection ea_ with ea_;subst ea_));subst ec_;clear en_))
     have GB5 := Aside0.mk gb5
     have GG5 := Aside0.mk HG5
     clear gb5 gl5 HG5
     have HMgo5 := Aside0.mk (show (P0_ go5 ∨ w.heap.size ≤ go5) from (HO_0.out.1 _ rfl))
     obtain ⟨hx5_0, hf5_0⟩ := Kd.R_celln 0 HO_0.out (x5_1 : Int) p5 q5
     replace p5 := eq_true p5
     replace q5 := eq_true q5
     have HP7 := Kd.R_putg HO_0.out (x5_1 : Int) x1_1
     go_wp2_with (first|((with_reducible refine gate_store (t := 3) (p := 15) rfl ?_);refine store_event (t := 3) (p := 15) (v := ?vo_w8) (w1 := (wr.setCell ⟨go5, (x5_1 : Int).toNat, none⟩ (.int .i64 x1_1))) ?hg ?ho ?hn ?hr ?_;(case ho => rfl);(case hg => rfl);(case hn => rfl);(case hr => first|(go_simp;done)|(go_simp;rfl));intro w8 hw;have hg : wr.grownBy w8 (some go5) := (by rw [hw];exact HP7.2);have hp_ : Kd.R (Kd.int .i64) 3 w8 w0.heap.size (fun k_ => (P0_ k_ ∨ w.heap.size ≤ k_)) (.slice (some ⟨go5, 0, none⟩) x0_1.length co6) y339 := (by rw [hw, Ny339.out];exact HP7.1);clear HP7;have n0_ := Aside0.mk (hp_);have n1_ := Aside0.mk ((by rw [hw];exact below_set (HB.out) GB5.out : Below w0.heap.size w0 w8));have n2_ := Aside0.mk (Kept.of_grown (S := (fun k_ => P0_ k_)) hg (by repeat (first|(with_reducible first|exact HK.out|apply Kept.alloc|apply Kept.drewN|apply Kept.drew)|exact HK.out)) (fun k_ e_ => (HO_0.out.1 k_ e_)));clear HO_0;clear HB;clear HK;have HO_0 := n0_;have HB := n1_;have HK := n2_;clear n0_ n1_ n2_;clear hg hw hp_))
     go_roundg k1
     case measure => have := HK1.out;omega
     case rel => exact ⟨(y339), (wrap64 (x1_1 + 1)), (wrap64 (x5_1 + 1)), (by first|rfl|(simp;done)|(simp [*];done)), (by first|rfl|(simp;done)|(simp [*];done)), H', ⟨by have := HK1.out;omega⟩, ⟨by (with_reducible repeat (first|apply Kd.R_alloc|apply Kd.R_drewN|apply Kd.R_drew));exact HO_0.out⟩, ⟨by repeat (first|(with_reducible first|exact HK.out|apply Kept.alloc|apply Kept.drewN|apply Kept.drew)|exact HK.out)⟩, ⟨by repeat (first|(with_reducible first|exact HB.out|apply below_alloc|apply pw_below_drewN|apply below_drew1)|exact HB.out)⟩⟩
    ·rw [if_neg c4] at H
     exact absurd H (by simp)
   ·rw [if_neg c3] at H
    have c3b0 : decide (x5_1 < (x0_1.length : Int)) = false := decide_eq_false c3
    clear c3
    simp only [Option.some.injEq, Prod.mk.injEq] at H
    obtain ⟨rfl, rfl⟩ := H
    obtain ⟨Ao9, co9, eo9⟩ := Kd.R_slice HO_0.out
    subst eo9
    go_wp2
    go_ret
    exact ⟨by first|rfl|(simp [errW_none, errW_some] <;> rfl)|(simp [*, errW_none, errW_some] <;> rfl), by (with_reducible repeat (first|apply Kd.R_alloc|apply Kd.R_drewN|apply Kd.R_drew));exact HO_0.out, by repeat (first|(with_reducible first|exact HB.out|apply below_alloc|apply pw_below_drewN|apply below_drew1)|exact HB.out), by repeat (first|(with_reducible first|exact HK.out|apply Kept.alloc|apply Kept.drewN|apply Kept.drew)|exact HK.out)⟩
def laws_markRatioS.l0 : Nat → List (S26) → Int → Int → Option (Int × (List (S26)))
 | 0, _, _, _ => none
 | k + 1, x0, x1, x5 => if x5 < (x0.length : Int) then (if 0 ≤ x5 then ((some (x0.set (x5 : Int).toNat (⟨x1, (rd_T26 x0 x5).f1⟩ : S26) : List (S26))).bind fun y343 => (laws_markRatioS.l0 k (y343.set (x5 : Int).toNat (⟨(rd_T26 y343 x5).f0, wrap64 (x1 + 1)⟩ : S26)) (wrap64 ((wrap64 (x1 + 1)) + 1)) (wrap64 (x5 + 1)))) else (none)) else (some (x1, x0))
def laws_markRatioS.f (k : Nat) (l0 : List (S26)) (a1 : Int) : Option (Int × (List (S26))) := laws_markRatioS.l0 k l0 a1 0
theorem laws_markRatioS.mono_l : ∀ k, (∀ y0 y1 y2, LeO (laws_markRatioS.l0 k y0 y1 y2) (laws_markRatioS.l0 (k + 1) y0 y1 y2))
|0 => fun _ _ _ r h => by simp [laws_markRatioS.l0] at h
|k + 1 => by
  have ih0 := laws_markRatioS.mono_l k
  ·intro y0 y1 y2
   unfold laws_markRatioS.l0
   repeat' first
  |(with_reducible exact ih0 _ _ _)
  |(with_reducible exact LeO.refl _)
  |(with_reducible exact LeO.none _)
  |(with_reducible refine LeO.ite ?_ ?_)
  |(with_reducible refine LeO.bind ?_ (fun _ => ?_))
  |exact ih0 _ _ _
  |exact LeO.none _
  |refine LeO.ite ?_ ?_
  |refine LeO.bind ?_ (fun _ => ?_)
theorem laws_markRatioS.mono : ∀ a0 a1 k, LeO (laws_markRatioS.f k a0 a1) (laws_markRatioS.f (k + 1) a0 a1) := by
 intro a0 a1 k
 have ih0 := laws_markRatioS.mono_l k
 unfold laws_markRatioS.f
 repeat' first
  |(with_reducible exact ih0 _ _ _)
  |(with_reducible exact LeO.refl _)
  |(with_reducible exact LeO.none _)
  |(with_reducible refine LeO.ite ?_ ?_)
  |(with_reducible refine LeO.bind ?_ (fun _ => ?_))
  |exact ih0 _ _ _
  |exact LeO.none _
  |refine LeO.ite ?_ ?_
  |refine LeO.bind ?_ (fun _ => ?_)
set_option maxHeartbeats 8000000 in
set_option maxRecDepth 100000 in
theorem laws_markRatioS.calls (k : Nat) (P0_ : Nat → Prop) (u9000_ : Value) (l0 : List (S26)) (a1 : Int) (r1 : Int) (r2 : List (S26)) (w0 w : World) (hB : Below w0.heap.size w0 w) (ho0 : Kd.R k26 26 w w0.heap.size P0_ u9000_ l0) (h : laws_markRatioS.f k l0 a1 = some (r1, r2)) :
  Calls Try.prog 36 #[u9000_, .int .i64 a1] w fun e w' => e = .returned (.int .i64 r1) ∧ Kd.R k26 26 w' w0.heap.size (fun k_ => (P0_ k_ ∨ w.heap.size ≤ k_)) u9000_ r2 ∧ Below w0.heap.size w0 w' ∧ Kept w w' (fun k_ => P0_ k_) := by
 have HO0 := Aside0.mk (show Kd.R k26 26 w w0.heap.size (fun k_ => (P0_ k_ ∨ w.heap.size ≤ k_)) u9000_ l0 from Kd.R_mono ho0 (fun k_ hk => (.inl hk)))
 have HK := Aside0.mk (Kept.refl w (fun k_ => P0_ k_))
 have HW0 := Aside0.mk hB.size
 have HB := Aside0.mk hB
 clear hB
 have H : (laws_markRatioS.l0 k l0 a1 0) = some (r1, r2) := h
 clear h
 have H' := Aside0.mk H
 clear H
 go_enter Try.func36, Try.ntmps36
 go_wp2
 go_loopg [1, 5] k (fun kq v1 v5 w' => ∃ (x0_1 : List (S26)) (x1_1 : Int) (x5_1 : Int), v1 = .int .i64 x1_1 ∧ v5 = .int .i64 x5_1 ∧ Aside0 (laws_markRatioS.l0 kq x0_1 x1_1 x5_1 = some (r1, r2)) ∧ Aside0 (kq ≤ k) ∧ Aside0 (Kd.R k26 26 w' w0.heap.size (fun k_ => (P0_ k_ ∨ w.heap.size ≤ k_)) u9000_ x0_1) ∧ Aside0 (Kept w w' (fun k_ => P0_ k_)) ∧ Aside0 (Below w0.heap.size w0 w'))
 case atStart => exact ⟨(l0), (a1), (0), (by first|rfl|(simp;done)|(simp [*];done)), (by first|rfl|(simp;done)|(simp [*];done)), H', ⟨Nat.le_refl _⟩, ⟨by (with_reducible repeat (first|apply Kd.R_alloc|apply Kd.R_drewN|apply Kd.R_drew));exact HO0.out⟩, ⟨by repeat (first|(with_reducible first|exact HK.out|apply Kept.alloc|apply Kept.drewN|apply Kept.drew)|exact HK.out)⟩, ⟨by repeat (first|(with_reducible first|exact HB.out|apply below_alloc|apply pw_below_drewN|apply below_drew1)|exact HB.out)⟩⟩
 case round =>
  clear H'
  try clear p2
  obtain ⟨x0_1, x1_1, x5_1, rfl, rfl, HA, HK1, HO_0, HK, HB⟩ := hrel
  cases gk with
 |zero => exact absurd HA.out (by simp [laws_markRatioS.l0])
 |succ k1 =>
   have H := HA.out
   clear HA
   simp only [laws_markRatioS.l0] at H
   by_cases c3 : x5_1 < (x0_1.length : Int)
   ·rw [if_pos c3] at H
    have c3b0 : decide (x5_1 < (x0_1.length : Int)) = true := decide_eq_true c3
    clear c3
    by_cases c4 : 0 ≤ x5_1
    ·rw [if_pos c4] at H
     have c4b0 : decide (0 ≤ x5_1) = true := decide_eq_true c4
     clear c4
     obtain ⟨y343, hy343⟩ : ∃ y_ : List (S26), y_ = (x0_1.set (x5_1 : Int).toNat (⟨x1_1, (rd_T26 x0_1 x5_1).f1⟩ : S26)) := ⟨_, rfl⟩
     replace H : (laws_markRatioS.l0 k1 (y343.set (x5_1 : Int).toNat (⟨(rd_T26 y343 x5_1).f0, wrap64 (x1_1 + 1)⟩ : S26)) (wrap64 ((wrap64 (x1_1 + 1)) + 1)) (wrap64 (x5_1 + 1))) = some (r1, r2) := by first|(rw [hy343];with_reducible exact H)|(have H2_ := (Option.bind_some _ _).symm.trans H;rw [hy343];with_reducible exact H2_)|(have H2_ := (Option.bind_some _ _).symm.trans H;with_reducible exact H2_)|with_reducible exact H|(rw [hy343];exact H)|exact H
     have Ny343 := Aside0.mk hy343
     clear hy343
     obtain ⟨y344, hy344⟩ : ∃ y_ : List (S26), y_ = (y343.set (x5_1 : Int).toNat (⟨(rd_T26 y343 x5_1).f0, wrap64 (x1_1 + 1)⟩ : S26)) := ⟨_, rfl⟩
     replace H : (laws_markRatioS.l0 k1 y344 (wrap64 ((wrap64 (x1_1 + 1)) + 1)) (wrap64 (x5_1 + 1))) = some (r1, r2) := by first|(rw [hy344];with_reducible exact H)|(have H2_ := (Option.bind_some _ _).symm.trans H;rw [hy344];with_reducible exact H2_)|(have H2_ := (Option.bind_some _ _).symm.trans H;with_reducible exact H2_)|with_reducible exact H|(rw [hy344];exact H)|exact H
     have Ny344 := Aside0.mk hy344
     clear hy344
     have H' := Aside0.mk H
     clear H
     obtain ⟨Ao7, co7, eo7⟩ := Kd.R_slice HO_0.out
     subst eo7
     have p5 : 0 ≤ (x5_1 : Int) := of_decide_eq_true (by first|(with_reducible assumption)|assumption)
     have q5 : (x5_1 : Int) < ((x0_1.length : Int) : Int) := of_decide_eq_true (by first|(with_reducible assumption)|assumption)
     obtain ⟨go5, co5, eo5, gb5, gl5, cl5, HG5⟩ := Kd.R_form HO_0.out (by omega)
     (first|cases eo5|(injection eo5 with ea_ en_ ec_;(first|subst ea_|(injection ea_ with ea_;subst ea_));subst ec_;clear en_))
     have GB5 := Aside0.mk gb5
     have GG5 := Aside0.mk HG5
     clear gb5 gl5 HG5
     have HMgo5 := Aside0.mk (show (P0_ go5 ∨ w.heap.size ≤ go5) from (HO_0.out.1 _ rfl))
     obtain ⟨ce5, hcl5, hM5, hcc5, hfr5⟩ := Kd.R_elem HO_0.out z26 (x5_1 : Int) p5 q5
     obtain rfl := k26_openM hM5
     have hx5_0 : wr.cell? ⟨go5, (x5_1 : Int).toNat * 2, none⟩ = some (.int .i64 ((rd_T26 x0_1 x5_1).f0)) := hcc5 0 _ rfl
     have hx5_1 : wr.cell? ⟨go5, (x5_1 : Int).toNat * 2 + 1, none⟩ = some (.int .i64 ((rd_T26 x0_1 x5_1).f1)) := hcc5 1 _ rfl
     have hf5_0 : wr.frozen? ⟨go5, (x5_1 : Int).toNat * 2, none⟩ = false := hfr5 0
     have hf5_1 : wr.frozen? ⟨go5, (x5_1 : Int).toNat * 2 + 1, none⟩ = false := hfr5 1
     clear hcl5 hcc5 hfr5;(try clear hM5)
     replace p5 := eq_true p5
     replace q5 := eq_true q5
     have HX8 := Aside0.mk (show Kd.R k26 26 wr w0.heap.size (fun k_ => (P0_ k_ ∨ w.heap.size ≤ k_)) (.slice (some ⟨go5, 0, none⟩) x0_1.length co7) x0_1 from (by (with_reducible repeat (first|apply Kd.R_alloc|apply Kd.R_drewN|apply Kd.R_drew));exact HO_0.out))
     obtain ⟨ce8, hcl8, hM8, hcc8, hfr8⟩ := Kd.R_elem HX8.out z26 (x5_1 : Int) (of_decide_eq_true (by first|(with_reducible assumption)|assumption)) (by have h_ : (x5_1 : Int) < ((x0_1.length : Int) : Int) := of_decide_eq_true (by first|(with_reducible assumption)|assumption);first|exact h_|(have e_ := (Kd.R_reads' HO_0.out).1;omega)|simpa using h_)
     obtain rfl := k26_openM hM8
     have HP8 := Kd.R_seg HX8.out (x5_1 : Int) (of_decide_eq_true (by first|(with_reducible assumption)|assumption)) (by have h_ : (x5_1 : Int) < ((x0_1.length : Int) : Int) := of_decide_eq_true (by first|(with_reducible assumption)|assumption);first|exact h_|(have e_ := (Kd.R_reads' HO_0.out).1;omega)|simpa using h_) (seg := [.int .i64 x1_1]) (j := 0) hcl8 hcc8 (show 1 ≤ 2 from by decide) (x' := (⟨x1_1, (rd_T26 x0_1 x5_1).f1⟩ : S26)) (k26_mkM _ _ _ (⟨x1_1, (rd_T26 x0_1 x5_1).f1⟩ : S26) ) (fun _ hk => hk)
     have hx8_0 := hcc8 0 _ rfl
     (try simp only [show (k26).sz = 2 from rfl, Nat.mul_one, Nat.add_zero] at hx8_0)
     have hf8_0 := hfr8 0
     (try simp only [show (k26).sz = 2 from rfl, Nat.mul_one, Nat.add_zero] at hf8_0)
     clear hcl8 hcc8 hfr8;(try clear hM8)
     go_wp2_with (first|((with_reducible refine gate_store (t := 3) (p := 16) rfl ?_);refine store_event (t := 3) (p := 16) (v := ?vo_w9) (w1 := (wr.setCell ⟨go5, (x5_1 : Int).toNat * 2, none⟩ (.int .i64 x1_1))) ?hg ?ho ?hn ?hr ?_;(case ho => rfl);(case hg => rfl);(case hn => rfl);(case hr => first|(go_simp;done)|(go_simp;rfl));intro w9 hw;have hg : wr.grownBy w9 (some go5) := (by rw [hw];exact HP8.2);have hp_ : Kd.R k26 26 w9 w0.heap.size (fun k_ => (P0_ k_ ∨ w.heap.size ≤ k_)) (.slice (some ⟨go5, 0, none⟩) x0_1.length co7) y343 := (by rw [hw, Ny343.out];exact HP8.1);clear HP8;have n0_ := Aside0.mk (hp_);have n1_ := Aside0.mk ((by rw [hw];exact below_set (HB.out) GB5.out : Below w0.heap.size w0 w9));have n2_ := Aside0.mk (Kept.of_grown (S := (fun k_ => P0_ k_)) hg (by repeat (first|(with_reducible first|exact HK.out|apply Kept.alloc|apply Kept.drewN|apply Kept.drew)|exact HK.out)) (fun k_ e_ => (HO_0.out.1 k_ e_)));clear HO_0;clear HB;clear HK;have HO_0 := n0_;have HB := n1_;have HK := n2_;clear n0_ n1_ n2_;clear hg hw hp_;have p6 : 0 ≤ (x5_1 : Int) := of_decide_eq_true (by first|(with_reducible assumption)|assumption);have q6 : (x5_1 : Int) < ((x0_1.length : Int) : Int) := of_decide_eq_true (by first|(with_reducible assumption)|assumption);obtain ⟨ce6, hcl6, hM6, hcc6, hfr6⟩ := Kd.R_elem HO_0.out z26 (x5_1 : Int) p6 q6;obtain rfl := k26_openM hM6;have hx6_0 : w9.cell? ⟨go5, (x5_1 : Int).toNat * 2, none⟩ = some (.int .i64 ((rd_T26 y343 x5_1).f0)) := hcc6 0 _ rfl;have hx6_1 : w9.cell? ⟨go5, (x5_1 : Int).toNat * 2 + 1, none⟩ = some (.int .i64 ((rd_T26 y343 x5_1).f1)) := hcc6 1 _ rfl;have hf6_0 : w9.frozen? ⟨go5, (x5_1 : Int).toNat * 2, none⟩ = false := hfr6 0;have hf6_1 : w9.frozen? ⟨go5, (x5_1 : Int).toNat * 2 + 1, none⟩ = false := hfr6 1;clear hcl6 hcc6 hfr6;(try clear hM6);replace p6 := eq_true p6;replace q6 := eq_true q6;have HX10 := Aside0.mk (show Kd.R k26 26 w9 w0.heap.size (fun k_ => (P0_ k_ ∨ w.heap.size ≤ k_)) (.slice (some ⟨go5, 0, none⟩) x0_1.length co7) y343 from (by (with_reducible repeat (first|apply Kd.R_alloc|apply Kd.R_drewN|apply Kd.R_drew));exact HO_0.out));obtain ⟨ce10, hcl10, hM10, hcc10, hfr10⟩ := Kd.R_elem HX10.out z26 (x5_1 : Int) (of_decide_eq_true (by first|(with_reducible assumption)|assumption)) (by have h_ : (x5_1 : Int) < ((x0_1.length : Int) : Int) := of_decide_eq_true (by first|(with_reducible assumption)|assumption);first|exact h_|(have e_ := (Kd.R_reads' HO_0.out).1;omega)|simpa using h_);obtain rfl := k26_openM hM10;have HP10 := Kd.R_seg HX10.out (x5_1 : Int) (of_decide_eq_true (by first|(with_reducible assumption)|assumption)) (by have h_ : (x5_1 : Int) < ((x0_1.length : Int) : Int) := of_decide_eq_true (by first|(with_reducible assumption)|assumption);first|exact h_|(have e_ := (Kd.R_reads' HO_0.out).1;omega)|simpa using h_) (seg := [.int .i64 (wrap64 (x1_1 + 1))]) (j := 1) hcl10 hcc10 (show 2 ≤ 2 from by decide) (x' := (⟨(rd_T26 y343 x5_1).f0, wrap64 (x1_1 + 1)⟩ : S26)) (k26_mkM _ _ _ (⟨(rd_T26 y343 x5_1).f0, wrap64 (x1_1 + 1)⟩ : S26) ) (fun _ hk => hk);have hx10_1 := hcc10 1 _ rfl;(try simp only [show (k26).sz = 2 from rfl, Nat.mul_one, Nat.add_zero] at hx10_1);have hf10_1 := hfr10 1;(try simp only [show (k26).sz = 2 from rfl, Nat.mul_one, Nat.add_zero] at hf10_1);clear hcl10 hcc10 hfr10;(try clear hM10))|((with_reducible refine gate_store (t := 3) (p := 23) rfl ?_);refine store_event (t := 3) (p := 23) (v := ?vo_w11) (w1 := (w9.setCell ⟨go5, (x5_1 : Int).toNat * 2 + 1, none⟩ (.int .i64 (wrap64 (x1_1 + 1))))) ?hg ?ho ?hn ?hr ?_;(case ho => rfl);(case hg => rfl);(case hn => rfl);(case hr => first|(go_simp;done)|(go_simp;rfl));intro w11 hw;have hg : w9.grownBy w11 (some go5) := (by rw [hw];exact HP10.2);have hp_ : Kd.R k26 26 w11 w0.heap.size (fun k_ => (P0_ k_ ∨ w.heap.size ≤ k_)) (.slice (some ⟨go5, 0, none⟩) x0_1.length co7) y344 := (by rw [hw, Ny344.out];exact HP10.1);clear HP10;have n0_ := Aside0.mk (hp_);have n1_ := Aside0.mk ((by rw [hw];exact below_set (HB.out) GB5.out : Below w0.heap.size w0 w11));have n2_ := Aside0.mk (Kept.of_grown (S := (fun k_ => P0_ k_)) hg (by repeat (first|(with_reducible first|exact HK.out|apply Kept.alloc|apply Kept.drewN|apply Kept.drew)|exact HK.out)) (fun k_ e_ => (HO_0.out.1 k_ e_)));clear HO_0;clear HB;clear HK;have HO_0 := n0_;have HB := n1_;have HK := n2_;clear n0_ n1_ n2_;clear hg hw hp_))
     go_roundg k1
     case measure => have := HK1.out;omega
     case rel => exact ⟨(y344), (wrap64 ((wrap64 (x1_1 + 1)) + 1)), (wrap64 (x5_1 + 1)), (by first|rfl|(simp;done)|(simp [*];done)), (by first|rfl|(simp;done)|(simp [*];done)), H', ⟨by have := HK1.out;omega⟩, ⟨by (with_reducible repeat (first|apply Kd.R_alloc|apply Kd.R_drewN|apply Kd.R_drew));exact HO_0.out⟩, ⟨by repeat (first|(with_reducible first|exact HK.out|apply Kept.alloc|apply Kept.drewN|apply Kept.drew)|exact HK.out)⟩, ⟨by repeat (first|(with_reducible first|exact HB.out|apply below_alloc|apply pw_below_drewN|apply below_drew1)|exact HB.out)⟩⟩
    ·rw [if_neg c4] at H
     exact absurd H (by simp)
   ·rw [if_neg c3] at H
    have c3b0 : decide (x5_1 < (x0_1.length : Int)) = false := decide_eq_false c3
    clear c3
    simp only [Option.some.injEq, Prod.mk.injEq] at H
    obtain ⟨rfl, rfl⟩ := H
    obtain ⟨Ao12, co12, eo12⟩ := Kd.R_slice HO_0.out
    subst eo12
    go_wp2
    go_ret
    exact ⟨by first|rfl|(simp [errW_none, errW_some] <;> rfl)|(simp [*, errW_none, errW_some] <;> rfl), by (with_reducible repeat (first|apply Kd.R_alloc|apply Kd.R_drewN|apply Kd.R_drew));exact HO_0.out, by repeat (first|(with_reducible first|exact HB.out|apply below_alloc|apply pw_below_drewN|apply below_drew1)|exact HB.out), by repeat (first|(with_reducible first|exact HK.out|apply Kept.alloc|apply Kept.drewN|apply Kept.drew)|exact HK.out)⟩
def laws_heldRatioS.l0 : Nat → List (S26) → Int → Int → Option (Int)
 | 0, _, _, _ => none
 | k + 1, x0, x1, x5 => if x5 < (x0.length : Int) then (if 0 ≤ x5 then (if ((rd_T26 x0 x5).f0) = x1 then (if ((rd_T26 x0 x5).f1) = (wrap64 (x1 + 1)) then (laws_heldRatioS.l0 k x0 (wrap64 ((wrap64 (x1 + 1)) + 1)) (wrap64 (x5 + 1))) else (some (-1))) else (some (-1))) else (none)) else (some x1)
def laws_heldRatioS.f (k : Nat) (l0 : List (S26)) (a1 : Int) : Option (Int) := laws_heldRatioS.l0 k l0 a1 0
theorem laws_heldRatioS.mono_l : ∀ k, (∀ y0 y1 y2, LeO (laws_heldRatioS.l0 k y0 y1 y2) (laws_heldRatioS.l0 (k + 1) y0 y1 y2))
|0 => fun _ _ _ r h => by simp [laws_heldRatioS.l0] at h
|k + 1 => by
  have ih0 := laws_heldRatioS.mono_l k
  ·intro y0 y1 y2
   unfold laws_heldRatioS.l0
   repeat' first
  |(with_reducible exact ih0 _ _ _)
  |(with_reducible exact LeO.refl _)
  |(with_reducible exact LeO.none _)
  |(with_reducible refine LeO.ite ?_ ?_)
  |(with_reducible refine LeO.bind ?_ (fun _ => ?_))
  |exact ih0 _ _ _
  |exact LeO.none _
  |refine LeO.ite ?_ ?_
  |refine LeO.bind ?_ (fun _ => ?_)
theorem laws_heldRatioS.mono : ∀ a0 a1 k, LeO (laws_heldRatioS.f k a0 a1) (laws_heldRatioS.f (k + 1) a0 a1) := by
 intro a0 a1 k
 have ih0 := laws_heldRatioS.mono_l k
 unfold laws_heldRatioS.f
 repeat' first
  |(with_reducible exact ih0 _ _ _)
  |(with_reducible exact LeO.refl _)
  |(with_reducible exact LeO.none _)
  |(with_reducible refine LeO.ite ?_ ?_)
  |(with_reducible refine LeO.bind ?_ (fun _ => ?_))
  |exact ih0 _ _ _
  |exact LeO.none _
  |refine LeO.ite ?_ ?_
  |refine LeO.bind ?_ (fun _ => ?_)
set_option maxHeartbeats 8000000 in
set_option maxRecDepth 100000 in
theorem laws_heldRatioS.calls (k : Nat) (A0 : Option Addr) (c0 : Nat) (l0 : List (S26)) (a1 : Int) (r : Int) (w : World) (hr0 : Kd.C k26 w A0 l0.length l0) (hc0 : l0.length ≤ c0) (h : laws_heldRatioS.f k l0 a1 = some r) :
  Calls Try.prog 37 #[.slice A0 l0.length c0, .int .i64 a1] w fun e w' => e = .returned (.int .i64 r) ∧ Drawn0 w w' := by
 have HR0 := Aside0.mk hr0
 have HC0 := Aside0.mk hc0
 clear hr0 hc0
 have H : (laws_heldRatioS.l0 k l0 a1 0) = some r := h
 clear h
 have H' := Aside0.mk H
 clear H
 go_enter Try.func37, Try.ntmps37
 go_wp2
 go_loopg [1, 5] k (fun kq v1 v5 w' => ∃ (x1_1 : Int) (x5_1 : Int), v1 = .int .i64 x1_1 ∧ v5 = .int .i64 x5_1 ∧ Aside0 (laws_heldRatioS.l0 kq l0 x1_1 x5_1 = some r) ∧ Aside0 (kq ≤ k) ∧ Drawn0 w w')
 case atStart => exact ⟨(a1), (0), (by first|rfl|(simp;done)|(simp [*];done)), (by first|rfl|(simp;done)|(simp [*];done)), H', ⟨Nat.le_refl _⟩, by repeat (first|exact Drawn0.refl _|apply Drawn0.step)⟩
 case round =>
  clear H'
  try clear p2
  obtain ⟨x1_1, x5_1, rfl, rfl, HA, HK1, ⟨m1, rfl⟩⟩ := hrel
  cases gk with
 |zero => exact absurd HA.out (by simp [laws_heldRatioS.l0])
 |succ k1 =>
   have H := HA.out
   clear HA
   simp only [laws_heldRatioS.l0] at H
   by_cases c3 : x5_1 < (l0.length : Int)
   ·rw [if_pos c3] at H
    have c3b0 : decide (x5_1 < (l0.length : Int)) = true := decide_eq_true c3
    clear c3
    by_cases c4 : 0 ≤ x5_1
    ·rw [if_pos c4] at H
     have c4b0 : decide (0 ≤ x5_1) = true := decide_eq_true c4
     clear c4
     by_cases c5 : ((rd_T26 l0 x5_1).f0) = x1_1
     ·rw [if_pos c5] at H
      have c5b0 : (((rd_T26 l0 x5_1).f0) == x1_1) = true := beq_iff_eq.mpr c5
      have c5b1 : (((rd_T26 l0 x5_1).f0) != x1_1) = false := bne_eq_false_iff_eq.mpr c5
      clear c5
      by_cases c6 : ((rd_T26 l0 x5_1).f1) = (wrap64 (x1_1 + 1))
      ·rw [if_pos c6] at H
       have c6b0 : (((rd_T26 l0 x5_1).f1) == (wrap64 (x1_1 + 1))) = true := beq_iff_eq.mpr c6
       have c6b1 : (((rd_T26 l0 x5_1).f1) != (wrap64 (x1_1 + 1))) = false := bne_eq_false_iff_eq.mpr c6
       clear c6
       have H' := Aside0.mk H
       clear H
       have p345 : 0 ≤ (x5_1 : Int) := of_decide_eq_true (by first|(with_reducible assumption)|assumption)
       have q345 : x5_1 < (l0.length : Int) := of_decide_eq_true (by first|(with_reducible assumption)|assumption)
       obtain ⟨ad345, e345, hx345_0, hx345_1⟩ := at_T26 HR0.out x5_1 p345 q345
       cases e345
       replace p345 := eq_true p345
       replace q345 := eq_true q345
       have p346 : 0 ≤ (x5_1 : Int) := of_decide_eq_true (by first|(with_reducible assumption)|assumption)
       have q346 : x5_1 < (l0.length : Int) := of_decide_eq_true (by first|(with_reducible assumption)|assumption)
       obtain ⟨ad346, e346, hx346_0, hx346_1⟩ := at_T26 HR0.out x5_1 p346 q346
       obtain rfl : ad345 = ad346 := (by injection e346)
       replace p346 := eq_true p346
       replace q346 := eq_true q346
       go_wp2
       go_roundg k1
       case measure => have := HK1.out;omega
       case rel => exact ⟨(wrap64 ((wrap64 (x1_1 + 1)) + 1)), (wrap64 (x5_1 + 1)), (by first|rfl|(simp;done)|(simp [*];done)), (by first|rfl|(simp;done)|(simp [*];done)), H', ⟨by have := HK1.out;omega⟩, by repeat (first|exact Drawn0.refl _|apply Drawn0.step)⟩
      ·rw [if_neg c6] at H
       have c6b0 : (((rd_T26 l0 x5_1).f1) == (wrap64 (x1_1 + 1))) = false := beq_eq_false_iff_ne.mpr c6
       have c6b1 : (((rd_T26 l0 x5_1).f1) != (wrap64 (x1_1 + 1))) = true := bne_iff_ne.mpr c6
       obtain rfl := Option.some.inj H
       have p345 : 0 ≤ (x5_1 : Int) := of_decide_eq_true (by first|(with_reducible assumption)|assumption)
       have q345 : x5_1 < (l0.length : Int) := of_decide_eq_true (by first|(with_reducible assumption)|assumption)
       obtain ⟨ad345, e345, hx345_0, hx345_1⟩ := at_T26 HR0.out x5_1 p345 q345
       cases e345
       replace p345 := eq_true p345
       replace q345 := eq_true q345
       have p346 : 0 ≤ (x5_1 : Int) := of_decide_eq_true (by first|(with_reducible assumption)|assumption)
       have q346 : x5_1 < (l0.length : Int) := of_decide_eq_true (by first|(with_reducible assumption)|assumption)
       obtain ⟨ad346, e346, hx346_0, hx346_1⟩ := at_T26 HR0.out x5_1 p346 q346
       obtain rfl : ad345 = ad346 := (by injection e346)
       replace p346 := eq_true p346
       replace q346 := eq_true q346
       go_wp2
       go_ret
       exact ⟨by first|rfl|(simp;done)|(simp [*];done), by repeat (first|exact Drawn0.refl _|apply Drawn0.step)⟩
     ·rw [if_neg c5] at H
      have c5b0 : (((rd_T26 l0 x5_1).f0) == x1_1) = false := beq_eq_false_iff_ne.mpr c5
      have c5b1 : (((rd_T26 l0 x5_1).f0) != x1_1) = true := bne_iff_ne.mpr c5
      obtain rfl := Option.some.inj H
      have p345 : 0 ≤ (x5_1 : Int) := of_decide_eq_true (by first|(with_reducible assumption)|assumption)
      have q345 : x5_1 < (l0.length : Int) := of_decide_eq_true (by first|(with_reducible assumption)|assumption)
      obtain ⟨ad345, e345, hx345_0, hx345_1⟩ := at_T26 HR0.out x5_1 p345 q345
      cases e345
      replace p345 := eq_true p345
      replace q345 := eq_true q345
      go_wp2
      go_ret
      exact ⟨by first|rfl|(simp;done)|(simp [*];done), by repeat (first|exact Drawn0.refl _|apply Drawn0.step)⟩
    ·rw [if_neg c4] at H
     exact absurd H (by simp)
   ·rw [if_neg c3] at H
    have c3b0 : decide (x5_1 < (l0.length : Int)) = false := decide_eq_false c3
    clear c3
    obtain rfl := Option.some.inj H
    go_wp2
    go_ret
    exact ⟨by first|rfl|(simp;done)|(simp [*];done), by repeat (first|exact Drawn0.refl _|apply Drawn0.step)⟩
end Go.Proofs.Ytojkepidkmkmpaa.PFnExactSolutionOf
end
section
namespace Go.Proofs.YtojkepidkmkmpaaRed
open Go.RowKit Go.Proofs.YtojkepidkmkmpaaW.PrintWords
def Rd {α : Type} (d : Kd α) (W : World) (lo hi : Nat) (A : Option Addr) (l : List α) : Prop := hi ≤ W.heap.size ∧ Kd.F d W (fun k => lo ≤ k ∧ k < hi) A l.length l
section
variable {α : Type} {d : Kd α} {W W' : World} {lo hi e base : Nat} {A : Option Addr} {l : List α} {v : Value} {ok : Nat → Prop}
theorem Rd.now (h : Rd d W lo hi A l) : d.C W A l.length l := h.2 W fun _ _ _ => rfl
theorem Rd.below (h : Rd d W lo hi A l) (hb : Below W.heap.size W W') : Rd d W' lo hi A l :=
 ⟨Nat.le_trans h.1 hb.size, fun W'' hW => h.2 W'' fun k hk hlt => (hW k hk (Nat.lt_of_lt_of_le hlt hb.size)).trans (hb.block k hlt)⟩
theorem Rd.kept (h : Rd d W lo hi A l) {S : Nat → Prop} (hk : Kept W W' S) (hs : ∀ k, lo ≤ k → k < hi → ¬ S k) : Rd d W' lo hi A l :=
 ⟨Nat.le_trans h.1 hk.1, fun W'' hW => h.2 W'' fun k hok hlt => (hW k hok (Nat.lt_of_lt_of_le hlt hk.1)).trans (hk.2 k hlt (hs k hok.1 hok.2))⟩
theorem Rd.ofN (h : Kd.N d e W base (fun k => base ≤ k) v l) : ∃ A c, v = .slice A l.length c ∧ l.length ≤ c ∧ Rd d W base W.heap.size A l := by
 obtain ⟨A, c, rfl⟩ := Kd.N_slice h
 have h2 := Kd.N_reads' h
 refine ⟨A, c, rfl, h2.2.1, Nat.le_refl _, ?_⟩
 exact Kd.N_F (Kd.N_bound h)
theorem Rd.ofR (h : d.R e W base ok v l) : ∃ A c, v = .slice A l.length c ∧ l.length ≤ c ∧ Rd d W base W.heap.size A l :=
 Rd.ofN (Kd.N_mono (Kd.R_N (Kd.R_bound h)) fun _ hk => hk.2.1)
theorem Rd.ofS (h : Kd.S d e W base ok v l) : ∃ A c, v = .slice A l.length c ∧ l.length ≤ c ∧ Rd d W base W.heap.size A l := Rd.ofR (Kd.S_R h)
end
def Wr (W : World) (lo hi : Nat) (v : Value) (X : List (List Int)) : Prop := hi ≤ W.heap.size ∧ Kd.S (Kd.slice 3 (Kd.int .i64)) 23 W lo (fun k => lo ≤ k ∧ k < hi) v X
section
variable {W W' : World} {lo hi base : Nat} {v : Value} {X : List (List Int)} {ok : Nat → Prop}
theorem Wr.ofS (h : Kd.S (Kd.slice 3 (Kd.int .i64)) 23 W base ok v X) : Wr W base W.heap.size v X := ⟨Nat.le_refl _, Kd.S_mono (Kd.S_bound h) fun _ hk => ⟨hk.2.1, hk.2.2.1⟩⟩
theorem Wr.form (h : Wr W lo hi v X) : ∃ A c, v = .slice A X.length c ∧ X.length ≤ c := by
 obtain ⟨A, c, e, hl, _⟩ := Kd.R_reads (Kd.S_R h.2)
 exact ⟨A, c, e, hl⟩
theorem Wr.now {A : Option Addr} {n c : Nat} (h : Wr W lo hi (.slice A n c) X) : (Kd.slice 3 (Kd.int .i64)).C W A X.length X := (Kd.R_reads' (Kd.S_R h.2)).2.2
theorem Wr.below (h : Wr W lo hi v X) (hb : Below W.heap.size W W') : Wr W' lo hi v X := ⟨Nat.le_trans h.1 hb.size, Kd.S_below h.2 hb⟩
theorem Wr.kept (h : Wr W lo hi v X) {S : Nat → Prop} (hk : Kept W W' S) (hs : ∀ k, lo ≤ k → k < hi → ¬ S k) : Wr W' lo hi v X := ⟨Nat.le_trans h.1 hk.1, Kd.S_kept h.2 hk fun k hk => hs k hk.1 hk.2⟩
end
abbrev Tr := Option Addr × Nat × Nat
def tv (t : Tr) : Value := .slice t.1 t.2.1 t.2.2
def TK : Kd Tr := Kd.scalar tv (fun _ => rfl)
structure RowsV (w : World) (base : Nat) (ts : List Tr) (xs : List (List Int)) : Prop where
 len : ts.length = xs.length
 row : ∀ (i : Nat) (t : Tr) (x : List Int), ts[i]? = some t → xs[i]? = some x → Kd.R (Kd.int .i64) 3 w base (fun k => some k = (tv t).ownBlock) (tv t) x
def ApartV (ts : List Tr) : Prop := ∀ (i j : Nat) (t u : Tr) (k : Nat), i ≠ j → ts[i]? = some t → ts[j]? = some u → (tv t).ownBlock = some k → (tv u).ownBlock ≠ some k
theorem of_S2 {w : World} {base : Nat} {ok : Nat → Prop} {v : Value} {m : List (List Int)} (h : Kd.S (Kd.slice 3 (Kd.int .i64)) 23 w base ok v m) :
  ∃ ts, TK.R 23 w base (fun k => some k = v.ownBlock) v ts ∧ RowsV w base ts m ∧ ApartV ts ∧ (∀ k, v.ownBlock = some k → ok k) ∧ ∀ t ∈ ts, ∀ k, (tv t).ownBlock = some k → ok k := by
 obtain ⟨f, h0, inner, ho, hr⟩ := h
 rw [List.length_zipIdx] at ho
 have key : ∀ j, j < m.length → ∃ t : Tr, inner[j]? = some (tv t) ∧ (∀ k, (tv t).ownBlock = some k → ok k ∧ f k = j) ∧ ∀ x, m[j]? = some x → Kd.R (Kd.int .i64) 3 w base (fun k => some k = (tv t).ownBlock) (tv t) x := by
  intro j hj
  have hx := List.getElem?_eq_getElem hj
  have hz : m.zipIdx[j]? = some (m[j], j) := Kd.zip_at hx
  obtain ⟨v', e, hR⟩ := hr.2 j (m[j], j) hz
  obtain ⟨A, c, hv⟩ := Kd.R_slice hR
  have hv' : v' = tv (A, m[j].length, c) := hv
  refine ⟨(A, m[j].length, c), ?_, ?_, fun x hx' => ?_⟩
  ·have h1 : ((inner.drop (j * 1)).take 1)[0]? = some v' := by
    have : (inner.drop (j * (Kd.tag f (Kd.slice 3 (Kd.int .i64))).sz)).take (Kd.tag f (Kd.slice 3 (Kd.int .i64))).sz = [v'] := e
    show ((inner.drop (j * (Kd.tag f (Kd.slice 3 (Kd.int .i64))).sz)).take (Kd.tag f (Kd.slice 3 (Kd.int .i64))).sz)[0]? = some v'
    rw [this];rfl
   rw [List.getElem?_take, if_pos (by omega), List.getElem?_drop, Nat.mul_one, Nat.add_zero] at h1
   rw [h1, hv']
  ·intro k hk
   have := hR.1 k (by rw [hv'];exact hk)
   exact ⟨this.1.1, this.2⟩
  ·rw [hx] at hx'
   cases hx'
   rw [hv'] at hR
   exact Kd.R_tight rfl hR
 obtain ⟨ts, hl, hP⟩ := list_of _ _ key
 refine ⟨ts, ?_, ⟨hl, fun i t x ht hx => (hP i t ht).2.2 x hx⟩, fun i j t u k hij ht hu hk hk2 => ?_, h0, fun t ht k hk => ?_⟩
 ·have hin : inner = encs tv ts := by
   apply List.ext_getElem?
   intro j
   unfold encs
   rw [List.getElem?_map]
   rcases Nat.lt_or_ge j ts.length with hj|hj
   ·rw [List.getElem?_eq_getElem hj, (hP j _ (List.getElem?_eq_getElem hj)).1]
    rfl
   ·rw [List.getElem?_eq_none hj, List.getElem?_eq_none]
    ·rfl
    ·have h1 : inner.length = m.length * 1 := ho.1
     omega
  rw [← hl, hin] at ho
  exact Kd.R_of_own (enc := tv) (h1 := fun _ => rfl) ho fun k hk => hk.symm
 ·have h1 := ((hP i t ht).2.1 k hk).2
  have h2 := ((hP j u hu).2.1 k hk2).2
  omega
 ·obtain ⟨i, hi⟩ := List.getElem?_of_mem ht
  exact ((hP i t hi).2.1 k hk).1
theorem to_S2 {w : World} {base : Nat} {ok : Nat → Prop} {v : Value} {ts : List Tr} {m : List (List Int)} (h : TK.R 23 w base (fun k => some k = v.ownBlock) v ts) (hr : RowsV w base ts m) (hn : ApartV ts) (hv : ∀ k, v.ownBlock = some k → ok k) (ht : ∀ t ∈ ts, ∀ k, (tv t).ownBlock = some k → ok k) : Kd.S (Kd.slice 3 (Kd.int .i64)) 23 w base ok v m := by
 have ho := Kd.own_of_R h
 refine ⟨fun k => ts.findIdx (fun t => decide ((tv t).ownBlock = some k)), hv, encs tv ts, ?_, ?_, ?_⟩
 ·rw [List.length_zipIdx, ← hr.len];exact ho
 ·rw [List.length_zipIdx]
  show (encs tv ts).length = m.length * 1
  simp [encs, hr.len]
 ·rintro j ⟨x, i⟩ hx
  have hj : j < m.length := by
   have := (List.getElem?_eq_some_iff.1 hx).1
   rwa [List.length_zipIdx] at this
  have hx2 : m.zipIdx[j]? = some (m[j], j) := Kd.zip_at (List.getElem?_eq_getElem hj)
  rw [hx2] at hx
  cases hx
  have hjp : j < ts.length := by rw [hr.len];exact hj
  have hrow := hr.row j _ _ (List.getElem?_eq_getElem hjp) (List.getElem?_eq_getElem hj)
  refine ⟨tv ts[j], ?_, ?_⟩
  ·show (List.drop (j * 1) (encs tv ts)).take 1 = [tv ts[j]]
   rw [Nat.mul_one]
   unfold encs
   rw [List.drop_eq_getElem_cons (by simpa using hjp)]
   simp
  ·refine Kd.R_mono hrow fun k hk => ⟨⟨ht _ (List.getElem_mem hjp) k hk.symm, fun e => ?_⟩, ?_⟩
   ·obtain ⟨c1, h1⟩ := Kd.R_typed hrow k hk.symm
    obtain ⟨c2, h2⟩ := Kd.R_typed h k e.symm
    rw [h1] at h2
    injection h2 with h2
    injection h2 with _ h2
    exact absurd h2 (by decide)
   ·refine (List.findIdx_eq hjp).2 ⟨by simpa using hk.symm, fun i hi => ?_⟩
    have h1 := hn j i ts[j] (ts[i]'(by omega)) k (by omega) (List.getElem?_eq_getElem hjp) (List.getElem?_eq_getElem (by omega)) hk.symm
    simpa using h1
theorem RowsV.step {w w' : World} {base : Nat} {ts : List Tr} {xs ys : List (List Int)} (hxy : xs.length = ys.length) {m : Nat} (h : RowsV w base ts (mix xs ys m)) (hn : ApartV ts) {t : Tr} {y : List Int}
  (hp : ts[m]? = some t) (hy : ys[m]? = some y) (hk : Kept w w' (fun k => some k = (tv t).ownBlock)) (hr : Kd.R (Kd.int .i64) 3 w' base (fun k => some k = (tv t).ownBlock) (tv t) y) : RowsV w' base ts (mix xs ys (m + 1)) := by
 have hl := h.len
 rw [mix_len _ _ _ hxy] at hl
 refine ⟨by rw [mix_len _ _ _ hxy];exact hl, fun i q x hq hx => ?_⟩
 rw [mix_get _ _ _ _ hxy] at hx
 by_cases e : i = m
 ·subst e
  rw [if_pos (by omega), hy] at hx
  rw [hp] at hq
  cases hq;cases hx
  exact hr
 ·have hx2 : (mix xs ys m)[i]? = some x := by
   rw [mix_get _ _ _ _ hxy]
   by_cases hi : i < m
   ·rw [if_pos hi];rw [if_pos (by omega)] at hx;exact hx
   ·rw [if_neg hi];rw [if_neg (by omega)] at hx;exact hx
  refine Kd.R_kept (h.row i q x hq hx2) hk fun k hk2 hk3 => ?_
  exact hn i m q t k e hq hp hk2.symm hk3.symm
theorem TK_at {w : World} {base N : Nat} {A : Option Addr} {c : Nat} {ok : Nat → Prop} {ts : List Tr} (h : TK.R 23 w base ok (.slice A N c) ts) (i : Nat) (h1 : i < N) :
  ∃ ad t, A = some ad ∧ ts[i]? = some t ∧ w.cell? (ad.add i) = some (tv t) := by
 obtain ⟨hN, _, hC⟩ := Kd.R_reads' h
 subst hN
 obtain ⟨ad, e, hc⟩ := ReadsOf.at_ (Kd.reads_of_C (enc := tv) (d := ((none, 0, 0) : Tr)) (h1 := fun _ => rfl) hC) (i : Int) (by omega) (by omega)
 rw [Int.toNat_natCast] at hc
 refine ⟨ad, ts[i], e, List.getElem?_eq_getElem h1, ?_⟩
 rw [hc]
 unfold rdOf
 rw [Int.toNat_natCast, List.getD_eq_getElem?_getD, List.getElem?_eq_getElem h1]
 rfl
theorem Rd.ofC {α : Type} {d : Kd α} {W : World} {A : Option Addr} {l : List α} (hd : Kd.Heap d) (h : d.C W A l.length l) : Rd d W 0 W.heap.size A l :=
 ⟨Nat.le_refl _, Kd.F_mono (Kd.C_F hd h) fun _ hk => ⟨Nat.zero_le _, hk⟩⟩
def WR {α : Type} (d : Kd α) (e : Nat) (W : World) (b lo hi : Nat) (v : Value) (l : List α) : Prop := hi ≤ W.heap.size ∧ d.R e W b (fun k => lo ≤ k ∧ k < hi) v l
section
variable {α β : Type} {d : Kd α} {d' : Kd β} {W W' : World} {b lo hi e e' base lo' hi' b' : Nat} {v v' : Value} {l l' : List α} {m : List β} {ok : Nat → Prop}
theorem WR.ofR (h : d.R e W base ok v l) (hb : b ≤ base) : WR d e W b base W.heap.size v l := ⟨Nat.le_refl _, Kd.R_lower (Kd.R_mono (Kd.R_bound h) fun _ hk => ⟨hk.2.1, hk.2.2.1⟩) hb⟩
theorem WR.form (h : WR d e W b lo hi v l) : ∃ A c, v = .slice A l.length c ∧ l.length ≤ c := by
 obtain ⟨A, c, e, hl, _⟩ := Kd.R_reads h.2
 exact ⟨A, c, e, hl⟩
theorem WR.now {A : Option Addr} {n c : Nat} (h : WR d e W b lo hi (.slice A n c) l) : d.C W A l.length l := by
 have h1 := Kd.R_reads' h.2
 have h2 := h1.2.2
 rw [← h1.1] at h2 ⊢
 exact h2
theorem WR.len {A : Option Addr} {n c : Nat} (h : WR d e W b lo hi (.slice A n c) l) : n = l.length := (Kd.R_reads' h.2).1
theorem WR.below (h : WR d e W b lo hi v l) (hb : Below W.heap.size W W') : WR d e W' b lo hi v l := ⟨Nat.le_trans h.1 hb.size, Kd.R_below h.2 hb⟩
theorem WR.kept (h : WR d e W b lo hi v l) {S : Nat → Prop} (hk : Kept W W' S) (hs : ∀ k, lo ≤ k → k < hi → ¬ S k) : WR d e W' b lo hi v l := ⟨Nat.le_trans h.1 hk.1, Kd.R_kept h.2 hk fun k hk => hs k hk.1 hk.2⟩
theorem WR.drewN (h : WR d e W b lo hi v l) (n : Nat) : WR d e (W.drewN n) b lo hi v l := ⟨h.1, Kd.R_drewN h.2 n⟩
theorem WR.tight (h : WR d e W b lo hi v l) (hE : d.E = []) : d.R e W b (fun k => some k = v.ownBlock) v l := Kd.R_tight hE h.2
theorem WR.marked (h : WR d e W b lo hi v l) (hE : d.E = []) {S : Nat → Prop} (hk : Kept W W' S) (hR : d.R e W' b ok v l') : WR d e W' b lo hi v l' := ⟨Nat.le_trans h.1 hk.1, Kd.R_reok hE hR h.2.1⟩
end
theorem Wr.drewN {W : World} {lo hi : Nat} {v : Value} {X : List (List Int)} (h : Wr W lo hi v X) (n : Nat) : Wr (W.drewN n) lo hi v X := ⟨h.1, Kd.S_drewN h.2 n⟩
end Go.Proofs.YtojkepidkmkmpaaRed
end
section
namespace Go.Proofs.Ytojkepidkmkmpaa.PFnExactSolutionOf
open Go.RowKit Go.Proofs.YtojkepidkmkmpaaW.PrintWords Go.Proofs.YtojkepidkmkmpaaW.PrintLast Go.Proofs.YtojkepidkmkmpaaW.PrintMore
attribute [local go_sem] max2_int min2_int max_two min_two max_three min_three max_four min_four
set_option linter.unusedVariables false
set_option linter.unusedSimpArgs false
def laws_markIntSS.f (k : Nat) : List (List Int) → Int → Option (Int × List (List Int))
 | [], a => some (a, [])
 | x :: l, a => (laws_markIntS.f k x a).bind fun p => (laws_markIntSS.f k l p.1).bind fun q => some (q.1, p.2 :: q.2)
theorem laws_markIntSS.mono (k : Nat) : ∀ (l : List (List Int)) (a : Int), LeO (laws_markIntSS.f k l a) (laws_markIntSS.f (k + 1) l a)
 | [], a => LeO.refl _
 | x :: l, a => by
  unfold laws_markIntSS.f
  exact LeO.bind (laws_markIntS.mono _ _ _) fun p => LeO.bind (laws_markIntSS.mono k l _) fun q => LeO.refl _
theorem laws_markIntSS.len (k : Nat) : ∀ (l : List (List Int)) (a r1 : Int) (r2 : List (List Int)), laws_markIntSS.f k l a = some (r1, r2) → l.length = r2.length
 | [], a, r1, r2, h => by
  have := Option.some.inj h
  cases this
  rfl
 | x :: l, a, r1, r2, h => by
  unfold laws_markIntSS.f at h
  obtain ⟨p, hp, h⟩ := Option.bind_eq_some_iff.1 h
  obtain ⟨q, hq, h⟩ := Option.bind_eq_some_iff.1 h
  have := Option.some.inj h
  cases this
  have := laws_markIntSS.len k l _ q.1 q.2 hq
  simp [this]
open YtojkepidkmkmpaaRed in
set_option maxHeartbeats 8000000 in
set_option maxRecDepth 100000 in
theorem laws_markIntSS.calls (k : Nat) (lo hi : Nat) (v : Value) (X : List (List Int)) (a1 : Int) (r1 : Int) (r2 : List (List Int)) (w0 w : World) (hB : Below w0.heap.size w0 w) (hlo : w0.heap.size ≤ lo) (hS : Wr w lo hi v X) (h : laws_markIntSS.f k X a1 = some (r1, r2)) :
  Calls Try.prog 34 #[v, .int .i64 a1] w fun e w' => e = .returned (.int .i64 r1) ∧ Wr w' lo hi v r2 ∧ Below w0.heap.size w0 w' ∧ Kept w w' (fun k_ => lo ≤ k_ ∧ k_ < hi) := by
 obtain ⟨ts, hsp, hra, hap, hov, hot⟩ := of_S2 hS.2
 obtain ⟨A, c, e0, hc⟩ := hS.form
 subst e0
 have hl : X.length ≤ 9223372036854775807 := Kd.C_max hS.now
 have HHI := Aside0.mk hS.1
 have HSP := Aside0.mk hsp
 have HRA0 := Aside0.mk hra
 have HAP := Aside0.mk hap
 have HOV := Aside0.mk hov
 have HOT := Aside0.mk hot
 have HLEN := Aside0.mk (laws_markIntSS.len k X a1 r1 r2 h)
 have HLO := Aside0.mk hlo
 have H := Aside0.mk h
 have HB := Aside0.mk hB
 clear hS hsp hra hap hov hot hlo h hB hc
 go_enter Try.func34, Try.ntmps34
 go_wp2
 go_loopg [1, 5] (X.length + 1) (fun kq v1 v5 w' => ∃ (i : Nat) (a : Int), v5 = .int .i64 (i : Int) ∧ v1 = .int .i64 a ∧ Aside0 (i ≤ X.length ∧ kq + i = X.length + 1) ∧ Aside0 (laws_markIntSS.f k (X.drop i) a = some (r1, r2.drop i)) ∧ Aside0 (RowsV w' lo ts (mix X r2 i)) ∧ Aside0 (Kept w w' (fun k_ => lo ≤ k_ ∧ k_ < hi ∧ ∃ t ∈ ts, (tv t).ownBlock = some k_)) ∧ Aside0 (Below w0.heap.size w0 w'))
 case atStart => exact ⟨0, a1, by first|rfl|(simp;done), rfl, ⟨by omega, by omega⟩, ⟨by simpa using H.out⟩, ⟨by rw [mix_zero];exact HRA0.out⟩, ⟨Kept.refl _ _⟩, HB⟩
 case round =>
  clear HB H
  obtain ⟨i, a, rfl, rfl, HI, HF, HRA, HK, HB⟩ := hrel
  have hspr := HSP.out
  have HSPr : Aside0 (TK.R 23 wr lo (fun k_ => some k_ = (Value.slice A X.length c).ownBlock) (.slice A X.length c) ts) := ⟨Kd.R_kept HSP.out HK.out fun k_ hk_ ⟨_, _, t_, ht_, e_⟩ => by
   obtain ⟨j_, hj_⟩ := List.getElem?_of_mem ht_
   have hjl : j_ < X.length := by
    rw [← HRA0.out.len]
    exact (List.getElem?_eq_some_iff.1 hj_).1
   have hrow := HRA0.out.row j_ t_ _ hj_ (List.getElem?_eq_getElem hjl)
   obtain ⟨c1, h1⟩ := Kd.R_typed hrow k_ e_
   obtain ⟨c2, h2⟩ := Kd.R_typed HSP.out k_ hk_.symm
   rw [h1] at h2
   injection h2 with h2
   injection h2 with _ h2
   exact absurd h2 (by decide)⟩
  clear hspr
  by_cases hi_ : i < X.length
  ·have hi2 : i < 9223372036854775807 := by omega
   obtain ⟨ad, t, eA, ht, hcell⟩ := TK_at HSPr.out i hi_
   subst eA
   obtain ⟨x, hx⟩ : ∃ x, X[i]? = some x := ⟨_, List.getElem?_eq_getElem hi_⟩
   have hxd : X.drop i = x :: X.drop (i + 1) := by
    rw [List.drop_eq_getElem_cons hi_]
    rw [List.getElem?_eq_getElem hi_] at hx
    rw [Option.some.inj hx]
   have hf := HF.out
   rw [hxd] at hf
   unfold laws_markIntSS.f at hf
   obtain ⟨p, hp, hf⟩ := Option.bind_eq_some_iff.1 hf
   obtain ⟨q, hq, hf⟩ := Option.bind_eq_some_iff.1 hf
   have hf2 := Option.some.inj hf
   have hr1 : q.1 = r1 := congrArg Prod.fst hf2
   have hr2 : p.2 :: q.2 = r2.drop i := congrArg Prod.snd hf2
   have hil : i < r2.length := by have := HLEN.out;omega
   rw [List.drop_eq_getElem_cons hil] at hr2
   injection hr2 with hy hys
   have hy2 : r2[i]? = some p.2 := by rw [List.getElem?_eq_getElem hil, hy]
   have hxm : (mix X r2 i)[i]? = some x := by rw [mix_get _ _ _ _ HLEN.out, if_neg (by omega)];exact hx
   have hrow := HRA.out.row i t x ht hxm
   obtain ⟨y1, y2⟩ := p
   have AP := Aside0.mk hp
   have HN : Aside0 (laws_markIntSS.f k (X.drop (i + 1)) y1 = some (r1, r2.drop (i + 1))) := ⟨by rw [hq];congr 1;exact Prod.ext hr1 hys⟩
   have HROW := Aside0.mk hrow
   have HT := Aside0.mk ht
   have HY := Aside0.mk hy2
   have HLB : Aside0 (Kd.R (Kd.int .i64) 3 wr w0.heap.size (fun k_ => some k_ = (tv t).ownBlock) (tv t) x) := ⟨Kd.R_lower hrow HLO.out⟩
   have HBS := Aside0.mk (Kd.R_base hrow)
   clear hx hxd hf hp hq hf2 hr1 hy hys hy2 hxm hrow ht
   go_wp2_with fail
   refine (laws_markIntS.calls k (fun k_ => some k_ = (tv t).ownBlock) (tv t) x a y1 y2 w0 _ HB.out HLB.out AP.out).mono ?_
   rintro e W2 ⟨rfl, hR2, hB2, hK2⟩
   have HB2 := Aside0.mk hB2
   have HK2 := Aside0.mk (Kept.then_ HK.out hK2 fun k_ hs_ => Or.inl (by
    have hm := List.mem_of_getElem? HT.out
    have h1 := HOT.out t hm k_ hs_.symm
    exact ⟨h1.1, h1.2, t, hm, hs_.symm⟩))
   have HRA2 := Aside0.mk (RowsV.step HLEN.out HRA.out HAP.out HT.out HY.out hK2 (by
    obtain ⟨h0, inner, ho, hr⟩ := hR2
    exact ⟨fun k_ hk_ => hk_.symm, inner, ⟨ho.1, by
     rcases ho.2 with h|⟨g, cap, cur, hv, hb, rest⟩
     ·exact .inl h
     ·exact .inr ⟨g, cap, cur, hv, HBS.out g (by rw [hv];rfl), rest⟩⟩, hr⟩))
   clear hR2 hB2 hK2
   go_wp2
   go_roundg (X.length - i)
   case measure => have := HI.out;omega
   case rel => exact ⟨i + 1, y1, by first|go_num|rfl|(simp;done)|(simp [*];done), rfl, ⟨by omega, by omega⟩, HN, HRA2, HK2, HB2⟩
  ·have hie : i = X.length := by have := HI.out;omega
   have HE : Aside0 (RowsV wr lo ts r2 ∧ a = r1) := ⟨by
    have h1 := HRA.out
    have h2 := HF.out
    rw [hie, mix_all _ _ HLEN.out] at h1
    rw [hie, List.drop_length, HLEN.out, List.drop_length] at h2
    exact ⟨h1, congrArg Prod.fst (Option.some.inj h2)⟩⟩
   clear hie
   go_wp2
   go_ret
   refine ⟨by rw [HE.out.2];rfl, ⟨Nat.le_trans HHI.out HK.out.1, ?_⟩, HB.out, HK.out.mono fun k_ hk_ => ⟨hk_.1, hk_.2.1⟩⟩
   have h1 := to_S2 HSPr.out HE.out.1 HAP.out HOV.out HOT.out
   rw [HLEN.out] at h1 ⊢
   exact h1
def laws_FnExactSolutionOf.f (k : Nat) (l0 : List (List Int)) (l1 : List Int) (a2 : Int) : Option Bool :=
 if (l1.length : Int) > 1048576 then some true else ((laws_szIntSS.f k l0 1048576).bind fun s_ => if s_ < 0 then some true else ((laws_toIntSS.f k l0).bind fun y0 => ((laws_toIntS.f k l1).bind fun z0 => ((spec_SolutionOf.f k y0 z0 a2).bind fun p_ => match p_ with | (w0, w1) => ((laws_toIntSS.f k l0).bind fun x0 => ((laws_toIntS.f k l1).bind fun x1 => ((impl_SolutionOf.f k x0 x1 a2).bind fun p_ => match p_ with | (g0, g1) => ((laws_eqRatioS.f k g0 w0).bind fun b_ => if b_ = true then (if w1 = g1 then ((laws_toIntSS.f k l0).bind fun y1 => ((laws_eqIntSS.f k x0 y1).bind fun b_ => if b_ = true then ((laws_toIntS.f k l1).bind fun z1 => ((laws_eqIntS.f k x1 z1).bind fun b_ => if b_ = true then ((laws_markIntSS.f k x0 1).bind fun p_ => match p_ with | (k1, xm) => ((laws_markIntS.f k x1 k1).bind fun p_ => match p_ with | (k2, xn) => (if k2 < 0 then none else ((laws_eqRatioS.f k g0 w0).bind fun b_ => if b_ = true then ((laws_markRatioS.f k g0 1).bind fun p_ => match p_ with | (m1, gm) => ((laws_heldRatioS.f k gm 1).bind fun q1 => (if q1 < 0 then none else (if m1 = q1 then ((laws_toIntSS.f k l0).bind fun y2 => ((laws_toIntS.f k l1).bind fun z2 => ((impl_SolutionOf.f k y2 z2 a2).bind fun p_ => match p_ with | (h0, h1) => ((laws_eqRatioS.f k h0 w0).bind fun b_ => if b_ = true then (if w1 = h1 then ((laws_heldRatioS.f k gm 1).bind fun q2 => (if q2 < 0 then none else (if m1 = q2 then (some true) else none))) else none) else none)))) else none)))) else none)))) else none)) else none)) else none) else none))))))))
open YtojkepidkmkmpaaRed in
set_option maxHeartbeats 8000000 in
set_option maxRecDepth 100000 in
theorem laws_FnExactSolutionOf.calls (k : Nat) (A0 : Option Addr) (c0 : Nat) (l0 : List (List Int)) (A1 : Option Addr) (c1 : Nat) (l1 : List Int) (a2 : Int) (r : Bool) (w : World) (hr0 : Kd.C (Kd.slice 3 (Kd.int .i64)) w A0 l0.length l0) (hc0 : l0.length ≤ c0) (hr1 : Kd.C (Kd.int .i64) w A1 l1.length l1) (hc1 : l1.length ≤ c1) (h : laws_FnExactSolutionOf.f k l0 l1 a2 = some r) :
  Calls Try.prog 14 #[.slice A0 l0.length c0, .slice A1 l1.length c1, .int .i64 a2] w fun e w' => e = .returned (.bool r) ∧ Below w.heap.size w w' := by
 have HL0 : Aside0 (Rd (Kd.slice 3 (Kd.int .i64)) w 0 w.heap.size A0 l0) := ⟨Rd.ofC (by first|exact Kd.heap_int _|exact Kd.heap_slice _ (Kd.heap_int _)) hr0⟩
 have HC0 := Aside0.mk hc0
 clear hr0 hc0
 have HL1 : Aside0 (Rd (Kd.int .i64) w 0 w.heap.size A1 l1) := ⟨Rd.ofC (by first|exact Kd.heap_int _|exact Kd.heap_slice _ (Kd.heap_int _)) hr1⟩
 have HC1 := Aside0.mk hc1
 clear hr1 hc1
 have HB := Aside0.mk (Below.refl w.heap.size w)
 unfold laws_FnExactSolutionOf.f at h
 by_cases c1 : (l1.length : Int) > 1048576
 ·rw [if_pos c1] at h
  have c1b0 : decide (1048576 < (l1.length : Int)) = true := decide_eq_true c1
  have c1b1 : decide (1048576 < l1.length) = true := decide_eq_true (by omega)
  obtain rfl := Option.some.inj h
  go_enter Try.func14, Try.ntmps14
  go_wp2
  go_ret
  exact ⟨rfl, (by repeat first|(with_reducible first|exact HB.out|apply below_alloc|apply pw_below_drewN|apply below_drew1)|exact HB.out)⟩
 rw [if_neg c1] at h
 have c1b0 : decide (1048576 < (l1.length : Int)) = false := decide_eq_false c1
 have c1b1 : decide (1048576 < l1.length) = false := decide_eq_false (by omega)
 clear c1
 replace h := Option.bind_eq_some_iff.1 h;obtain ⟨s2_, AS2, h⟩ := h
 have HS2 := Aside0.mk AS2;clear AS2
 by_cases c2 : s2_ < 0
 ·rw [if_pos c2] at h
  have c2b0 : decide (s2_ < 0) = true := decide_eq_true c2
  obtain rfl := Option.some.inj h
  go_enter Try.func14, Try.ntmps14
  go_wp2_with fail
  refine (laws_szIntSS.calls k _ _ l0 1048576 s2_ _ (by repeat (first|(with_reducible exact HL0.out.now)|(with_reducible refine Kd.C_alloc ?_ _)|(with_reducible refine Kd.C_drewN ?_ _)|(with_reducible refine Kd.C_drew ?_)|exact HL0.out.now)) HC0.out HS2.out).mono ?_
  rintro e w' ⟨rfl, ⟨nd, rfl⟩⟩
  go_wp2
  go_ret
  exact ⟨rfl, (by repeat first|(with_reducible first|exact HB.out|apply below_alloc|apply pw_below_drewN|apply below_drew1)|exact HB.out)⟩
 rw [if_neg c2] at h
 have c2b0 : decide (s2_ < 0) = false := decide_eq_false c2
 clear c2
 replace h := Option.bind_eq_some_iff.1 h;obtain ⟨y0, HF30, h⟩ := h
 have HF3 := Aside0.mk HF30;clear HF30
 replace h := Option.bind_eq_some_iff.1 h;obtain ⟨z0, HF40, h⟩ := h
 have HF4 := Aside0.mk HF40;clear HF40
 replace h := Option.bind_eq_some_iff.1 h;obtain ⟨⟨w0, w1⟩, HF50, h⟩ := h
 dsimp only at h
 have HF5 := Aside0.mk HF50;clear HF50
 replace h := Option.bind_eq_some_iff.1 h;obtain ⟨x0, HF60, h⟩ := h
 have HF6 := Aside0.mk HF60;clear HF60
 replace h := Option.bind_eq_some_iff.1 h;obtain ⟨x1, HF70, h⟩ := h
 have HF7 := Aside0.mk HF70;clear HF70
 replace h := Option.bind_eq_some_iff.1 h;obtain ⟨⟨g0, g1⟩, HF80, h⟩ := h
 dsimp only at h
 have HF8 := Aside0.mk HF80;clear HF80
 replace h := Option.bind_eq_some_iff.1 h;obtain ⟨b9_, HF90, h⟩ := h
 have hb9_ : b9_ = true := Decidable.byContradiction fun hh_ => by rw [if_neg hh_] at h;cases h
 rw [if_pos hb9_] at h;subst hb9_
 have HF9 := Aside0.mk HF90;clear HF90
 have hb10_ : w1 = g1 := Decidable.byContradiction fun hh_ => by rw [if_neg hh_] at h;cases h
 rw [if_pos hb10_] at h;subst hb10_
 replace h := Option.bind_eq_some_iff.1 h;obtain ⟨y1, HF110, h⟩ := h
 have HF11 := Aside0.mk HF110;clear HF110
 replace h := Option.bind_eq_some_iff.1 h;obtain ⟨b12_, HF120, h⟩ := h
 have hb12_ : b12_ = true := Decidable.byContradiction fun hh_ => by rw [if_neg hh_] at h;cases h
 rw [if_pos hb12_] at h;subst hb12_
 have HF12 := Aside0.mk HF120;clear HF120
 replace h := Option.bind_eq_some_iff.1 h;obtain ⟨z1, HF130, h⟩ := h
 have HF13 := Aside0.mk HF130;clear HF130
 replace h := Option.bind_eq_some_iff.1 h;obtain ⟨b14_, HF140, h⟩ := h
 have hb14_ : b14_ = true := Decidable.byContradiction fun hh_ => by rw [if_neg hh_] at h;cases h
 rw [if_pos hb14_] at h;subst hb14_
 have HF14 := Aside0.mk HF140;clear HF140
 replace h := Option.bind_eq_some_iff.1 h;obtain ⟨⟨k1, xm⟩, HF150, h⟩ := h
 dsimp only at h
 have HF15 := Aside0.mk HF150;clear HF150
 replace h := Option.bind_eq_some_iff.1 h;obtain ⟨⟨k2, xn⟩, HF160, h⟩ := h
 dsimp only at h
 have HF16 := Aside0.mk HF160;clear HF160
 by_cases c17 : k2 < 0
 ·rw [if_pos c17] at h;cases h
 rw [if_neg c17] at h
 have c17b0 : decide (k2 < 0) = false := decide_eq_false c17
 clear c17
 replace h := Option.bind_eq_some_iff.1 h;obtain ⟨b18_, HF180, h⟩ := h
 have hb18_ : b18_ = true := Decidable.byContradiction fun hh_ => by rw [if_neg hh_] at h;cases h
 rw [if_pos hb18_] at h;subst hb18_
 have HF18 := Aside0.mk HF180;clear HF180
 replace h := Option.bind_eq_some_iff.1 h;obtain ⟨⟨m1, gm⟩, HF190, h⟩ := h
 dsimp only at h
 have HF19 := Aside0.mk HF190;clear HF190
 replace h := Option.bind_eq_some_iff.1 h;obtain ⟨q1, HF200, h⟩ := h
 have HF20 := Aside0.mk HF200;clear HF200
 by_cases c21 : q1 < 0
 ·rw [if_pos c21] at h;cases h
 rw [if_neg c21] at h
 have c21b0 : decide (q1 < 0) = false := decide_eq_false c21
 clear c21
 have hb22_ : m1 = q1 := Decidable.byContradiction fun hh_ => by rw [if_neg hh_] at h;cases h
 rw [if_pos hb22_] at h;subst hb22_
 replace h := Option.bind_eq_some_iff.1 h;obtain ⟨y2, HF230, h⟩ := h
 have HF23 := Aside0.mk HF230;clear HF230
 replace h := Option.bind_eq_some_iff.1 h;obtain ⟨z2, HF240, h⟩ := h
 have HF24 := Aside0.mk HF240;clear HF240
 replace h := Option.bind_eq_some_iff.1 h;obtain ⟨⟨h0, h1⟩, HF250, h⟩ := h
 dsimp only at h
 have HF25 := Aside0.mk HF250;clear HF250
 replace h := Option.bind_eq_some_iff.1 h;obtain ⟨b26_, HF260, h⟩ := h
 have hb26_ : b26_ = true := Decidable.byContradiction fun hh_ => by rw [if_neg hh_] at h;cases h
 rw [if_pos hb26_] at h;subst hb26_
 have HF26 := Aside0.mk HF260;clear HF260
 have hb27_ : w1 = h1 := Decidable.byContradiction fun hh_ => by rw [if_neg hh_] at h;cases h
 rw [if_pos hb27_] at h;subst hb27_
 replace h := Option.bind_eq_some_iff.1 h;obtain ⟨q2, HF280, h⟩ := h
 have HF28 := Aside0.mk HF280;clear HF280
 by_cases c29 : q2 < 0
 ·rw [if_pos c29] at h;cases h
 rw [if_neg c29] at h
 have c29b0 : decide (q2 < 0) = false := decide_eq_false c29
 clear c29
 have hb30_ : m1 = q2 := Decidable.byContradiction fun hh_ => by rw [if_neg hh_] at h;cases h
 rw [if_pos hb30_] at h;subst hb30_
 obtain rfl := Option.some.inj h
 clear h
 have HSZ := Aside0.mk (Nat.le_refl w.heap.size)
 go_enter Try.func14, Try.ntmps14
 go_wp2_with fail
 refine (laws_szIntSS.calls k _ _ l0 1048576 s2_ _ (by repeat (first|(with_reducible exact HL0.out.now)|(with_reducible refine Kd.C_alloc ?_ _)|(with_reducible refine Kd.C_drewN ?_ _)|(with_reducible refine Kd.C_drew ?_)|exact HL0.out.now)) HC0.out HS2.out).mono ?_
 rintro e w' ⟨rfl, ⟨nd, rfl⟩⟩
 go_wp2_with fail
 refine (laws_toIntSS.calls k _ _ l0 y0 _ (by repeat (first|(with_reducible exact HL0.out.now)|(with_reducible refine Kd.C_alloc ?_ _)|(with_reducible refine Kd.C_drewN ?_ _)|(with_reducible refine Kd.C_drew ?_)|exact HL0.out.now)) HC0.out HF3.out).mono ?_
 rintro e W1 ⟨v_, rfl, ho, hb⟩
 have hb1_ : Below w.heap.size w W1 := below_step (by repeat (first|(with_reducible exact Below.refl _ _)|apply below_alloc|apply pw_below_drewN|apply below_drew1)) hb
 have n_HL0 := Aside0.mk (HL0.out.below hb1_)
 have n_HL1 := Aside0.mk (HL1.out.below hb1_)
 clear HL0
 have HL0 := n_HL0
 clear n_HL0
 clear HL1
 have HL1 := n_HL1
 clear n_HL1
 have n_HB := Aside0.mk (below_step HB.out hb1_);clear HB;have HB := n_HB;clear n_HB
 have n_HSZ := Aside0.mk (And.intro HSZ.out hb1_.size);clear HSZ;have HSZ := n_HSZ;clear n_HSZ
 have Hy0 : Aside0 (Wr W1 w.heap.size W1.heap.size v_ y0) := ⟨Wr.ofS ho⟩
 obtain ⟨A_y0, c_y0, e_y0, hc_y0⟩ := Hy0.out.form;subst e_y0
 have HC_y0 := Aside0.mk hc_y0;clear hc_y0
 clear hb hb1_ ho
 go_wp2_with fail
 refine (laws_toIntS.calls k _ _ l1 z0 _ (by repeat (first|(with_reducible exact HL1.out.now)|(with_reducible refine Kd.C_alloc ?_ _)|(with_reducible refine Kd.C_drewN ?_ _)|(with_reducible refine Kd.C_drew ?_)|exact HL1.out.now)) HC1.out HF4.out).mono ?_
 rintro e W2 ⟨v_, rfl, ho, hb⟩
 have hb1_ : Below W1.heap.size W1 W2 := below_step (by repeat (first|(with_reducible exact Below.refl _ _)|apply below_alloc|apply pw_below_drewN|apply below_drew1)) hb
 have n_HL0 := Aside0.mk (HL0.out.below hb1_)
 have n_HL1 := Aside0.mk (HL1.out.below hb1_)
 have n_Hy0 := Aside0.mk (Hy0.out.below hb1_)
 clear HL0
 have HL0 := n_HL0
 clear n_HL0
 clear HL1
 have HL1 := n_HL1
 clear n_HL1
 clear Hy0
 have Hy0 := n_Hy0
 clear n_Hy0
 have n_HB := Aside0.mk (below_step HB.out hb1_);clear HB;have HB := n_HB;clear n_HB
 have n_HSZ := Aside0.mk (And.intro HSZ.out hb1_.size);clear HSZ;have HSZ := n_HSZ;clear n_HSZ
 obtain ⟨A_z0, c_z0, e_z0, hc_z0, hr_z0⟩ := Rd.ofR ho;subst e_z0
 have Hz0 : Aside0 (Rd (Kd.int .i64) W2 W1.heap.size W2.heap.size A_z0 z0) := ⟨hr_z0⟩;clear hr_z0
 have HC_z0 := Aside0.mk hc_z0;clear hc_z0
 clear hb hb1_ ho
 go_wp2_with fail
 refine (spec_SolutionOf.calls k _ _ y0 _ _ z0 a2 w0 w1 _ (by repeat (first|(with_reducible exact Hy0.out.now)|(with_reducible refine Kd.C_alloc ?_ _)|(with_reducible refine Kd.C_drewN ?_ _)|(with_reducible refine Kd.C_drew ?_)|exact Hy0.out.now)) HC_y0.out (by repeat (first|(with_reducible exact Hz0.out.now)|(with_reducible refine Kd.C_alloc ?_ _)|(with_reducible refine Kd.C_drewN ?_ _)|(with_reducible refine Kd.C_drew ?_)|exact Hz0.out.now)) HC_z0.out HF5.out).mono ?_
 rintro e W3 ⟨v_, rfl, ho, hb⟩
 have hb1_ : Below W2.heap.size W2 W3 := below_step (by repeat (first|(with_reducible exact Below.refl _ _)|apply below_alloc|apply pw_below_drewN|apply below_drew1)) hb
 have n_HL0 := Aside0.mk (HL0.out.below hb1_)
 have n_HL1 := Aside0.mk (HL1.out.below hb1_)
 have n_Hy0 := Aside0.mk (Hy0.out.below hb1_)
 have n_Hz0 := Aside0.mk (Hz0.out.below hb1_)
 clear HL0
 have HL0 := n_HL0
 clear n_HL0
 clear HL1
 have HL1 := n_HL1
 clear n_HL1
 clear Hy0
 have Hy0 := n_Hy0
 clear n_Hy0
 clear Hz0
 have Hz0 := n_Hz0
 clear n_Hz0
 have n_HB := Aside0.mk (below_step HB.out hb1_);clear HB;have HB := n_HB;clear n_HB
 have n_HSZ := Aside0.mk (And.intro HSZ.out hb1_.size);clear HSZ;have HSZ := n_HSZ;clear n_HSZ
 obtain ⟨A_w0, c_w0, e_w0, hc_w0, hr_w0⟩ := Rd.ofR ho;subst e_w0
 have Hw0 : Aside0 (Rd k26 W3 W2.heap.size W3.heap.size A_w0 w0) := ⟨hr_w0⟩;clear hr_w0
 have HC_w0 := Aside0.mk hc_w0;clear hc_w0
 clear hb hb1_ ho
 go_wp2_with fail
 refine (laws_toIntSS.calls k _ _ l0 x0 _ (by repeat (first|(with_reducible exact HL0.out.now)|(with_reducible refine Kd.C_alloc ?_ _)|(with_reducible refine Kd.C_drewN ?_ _)|(with_reducible refine Kd.C_drew ?_)|exact HL0.out.now)) HC0.out HF6.out).mono ?_
 rintro e W4 ⟨v_, rfl, ho, hb⟩
 have hb1_ : Below W3.heap.size W3 W4 := below_step (by repeat (first|(with_reducible exact Below.refl _ _)|apply below_alloc|apply pw_below_drewN|apply below_drew1)) hb
 have n_HL0 := Aside0.mk (HL0.out.below hb1_)
 have n_HL1 := Aside0.mk (HL1.out.below hb1_)
 have n_Hy0 := Aside0.mk (Hy0.out.below hb1_)
 have n_Hz0 := Aside0.mk (Hz0.out.below hb1_)
 have n_Hw0 := Aside0.mk (Hw0.out.below hb1_)
 clear HL0
 have HL0 := n_HL0
 clear n_HL0
 clear HL1
 have HL1 := n_HL1
 clear n_HL1
 clear Hy0
 have Hy0 := n_Hy0
 clear n_Hy0
 clear Hz0
 have Hz0 := n_Hz0
 clear n_Hz0
 clear Hw0
 have Hw0 := n_Hw0
 clear n_Hw0
 have n_HB := Aside0.mk (below_step HB.out hb1_);clear HB;have HB := n_HB;clear n_HB
 have n_HSZ := Aside0.mk (And.intro HSZ.out hb1_.size);clear HSZ;have HSZ := n_HSZ;clear n_HSZ
 have Hx0 : Aside0 (Wr W4 W3.heap.size W4.heap.size v_ x0) := ⟨Wr.ofS ho⟩
 obtain ⟨A_x0, c_x0, e_x0, hc_x0⟩ := Hx0.out.form;subst e_x0
 have HC_x0 := Aside0.mk hc_x0;clear hc_x0
 clear hb hb1_ ho
 go_wp2_with fail
 refine (laws_toIntS.calls k _ _ l1 x1 _ (by repeat (first|(with_reducible exact HL1.out.now)|(with_reducible refine Kd.C_alloc ?_ _)|(with_reducible refine Kd.C_drewN ?_ _)|(with_reducible refine Kd.C_drew ?_)|exact HL1.out.now)) HC1.out HF7.out).mono ?_
 rintro e W5 ⟨v_, rfl, ho, hb⟩
 have hb1_ : Below W4.heap.size W4 W5 := below_step (by repeat (first|(with_reducible exact Below.refl _ _)|apply below_alloc|apply pw_below_drewN|apply below_drew1)) hb
 have n_HL0 := Aside0.mk (HL0.out.below hb1_)
 have n_HL1 := Aside0.mk (HL1.out.below hb1_)
 have n_Hy0 := Aside0.mk (Hy0.out.below hb1_)
 have n_Hz0 := Aside0.mk (Hz0.out.below hb1_)
 have n_Hw0 := Aside0.mk (Hw0.out.below hb1_)
 have n_Hx0 := Aside0.mk (Hx0.out.below hb1_)
 clear HL0
 have HL0 := n_HL0
 clear n_HL0
 clear HL1
 have HL1 := n_HL1
 clear n_HL1
 clear Hy0
 have Hy0 := n_Hy0
 clear n_Hy0
 clear Hz0
 have Hz0 := n_Hz0
 clear n_Hz0
 clear Hw0
 have Hw0 := n_Hw0
 clear n_Hw0
 clear Hx0
 have Hx0 := n_Hx0
 clear n_Hx0
 have n_HB := Aside0.mk (below_step HB.out hb1_);clear HB;have HB := n_HB;clear n_HB
 have n_HSZ := Aside0.mk (And.intro HSZ.out hb1_.size);clear HSZ;have HSZ := n_HSZ;clear n_HSZ
 have Hx1 : Aside0 (WR (Kd.int .i64) 3 W5 w.heap.size W4.heap.size W5.heap.size v_ x1) := ⟨WR.ofR (base := W4.heap.size) ho (by have := HSZ.out;omega)⟩
 obtain ⟨A_x1, c_x1, e_x1, hc_x1⟩ := Hx1.out.form;subst e_x1
 have HC_x1 := Aside0.mk hc_x1;clear hc_x1
 clear hb hb1_ ho
 go_wp2_with fail
 refine (impl_SolutionOf.calls k _ _ x0 _ _ x1 a2 g0 w1 _ (by repeat (first|(with_reducible exact Hx0.out.now)|(with_reducible refine Kd.C_alloc ?_ _)|(with_reducible refine Kd.C_drewN ?_ _)|(with_reducible refine Kd.C_drew ?_)|exact Hx0.out.now)) HC_x0.out (by repeat (first|(with_reducible exact Hx1.out.now)|(with_reducible refine Kd.C_alloc ?_ _)|(with_reducible refine Kd.C_drewN ?_ _)|(with_reducible refine Kd.C_drew ?_)|exact Hx1.out.now)) HC_x1.out HF8.out).mono ?_
 rintro e W6 ⟨v_, rfl, ho, hb⟩
 have hb1_ : Below W5.heap.size W5 W6 := below_step (by repeat (first|(with_reducible exact Below.refl _ _)|apply below_alloc|apply pw_below_drewN|apply below_drew1)) hb
 have n_HL0 := Aside0.mk (HL0.out.below hb1_)
 have n_HL1 := Aside0.mk (HL1.out.below hb1_)
 have n_Hy0 := Aside0.mk (Hy0.out.below hb1_)
 have n_Hz0 := Aside0.mk (Hz0.out.below hb1_)
 have n_Hw0 := Aside0.mk (Hw0.out.below hb1_)
 have n_Hx0 := Aside0.mk (Hx0.out.below hb1_)
 have n_Hx1 := Aside0.mk (Hx1.out.below hb1_)
 clear HL0
 have HL0 := n_HL0
 clear n_HL0
 clear HL1
 have HL1 := n_HL1
 clear n_HL1
 clear Hy0
 have Hy0 := n_Hy0
 clear n_Hy0
 clear Hz0
 have Hz0 := n_Hz0
 clear n_Hz0
 clear Hw0
 have Hw0 := n_Hw0
 clear n_Hw0
 clear Hx0
 have Hx0 := n_Hx0
 clear n_Hx0
 clear Hx1
 have Hx1 := n_Hx1
 clear n_Hx1
 have n_HB := Aside0.mk (below_step HB.out hb1_);clear HB;have HB := n_HB;clear n_HB
 have n_HSZ := Aside0.mk (And.intro HSZ.out hb1_.size);clear HSZ;have HSZ := n_HSZ;clear n_HSZ
 have Hg0 : Aside0 (WR k26 26 W6 w.heap.size W5.heap.size W6.heap.size v_ g0) := ⟨WR.ofR (base := W5.heap.size) ho (by have := HSZ.out;omega)⟩
 obtain ⟨A_g0, c_g0, e_g0, hc_g0⟩ := Hg0.out.form;subst e_g0
 have HC_g0 := Aside0.mk hc_g0;clear hc_g0
 clear hb hb1_ ho
 go_wp2_with fail
 refine (laws_eqRatioS.calls k _ _ g0 _ _ w0 true _ (by repeat (first|(with_reducible exact Hg0.out.now)|(with_reducible refine Kd.C_alloc ?_ _)|(with_reducible refine Kd.C_drewN ?_ _)|(with_reducible refine Kd.C_drew ?_)|exact Hg0.out.now)) HC_g0.out (by repeat (first|(with_reducible exact Hw0.out.now)|(with_reducible refine Kd.C_alloc ?_ _)|(with_reducible refine Kd.C_drewN ?_ _)|(with_reducible refine Kd.C_drew ?_)|exact Hw0.out.now)) HC_w0.out HF9.out).mono ?_
 rintro e W7 ⟨rfl, hb⟩
 have hb1_ : Below W6.heap.size W6 W7 := below_step (by repeat (first|(with_reducible exact Below.refl _ _)|apply below_alloc|apply pw_below_drewN|apply below_drew1)) hb
 have n_HL0 := Aside0.mk (HL0.out.below hb1_)
 have n_HL1 := Aside0.mk (HL1.out.below hb1_)
 have n_Hy0 := Aside0.mk (Hy0.out.below hb1_)
 have n_Hz0 := Aside0.mk (Hz0.out.below hb1_)
 have n_Hw0 := Aside0.mk (Hw0.out.below hb1_)
 have n_Hx0 := Aside0.mk (Hx0.out.below hb1_)
 have n_Hx1 := Aside0.mk (Hx1.out.below hb1_)
 have n_Hg0 := Aside0.mk (Hg0.out.below hb1_)
 clear HL0
 have HL0 := n_HL0
 clear n_HL0
 clear HL1
 have HL1 := n_HL1
 clear n_HL1
 clear Hy0
 have Hy0 := n_Hy0
 clear n_Hy0
 clear Hz0
 have Hz0 := n_Hz0
 clear n_Hz0
 clear Hw0
 have Hw0 := n_Hw0
 clear n_Hw0
 clear Hx0
 have Hx0 := n_Hx0
 clear n_Hx0
 clear Hx1
 have Hx1 := n_Hx1
 clear n_Hx1
 clear Hg0
 have Hg0 := n_Hg0
 clear n_Hg0
 have n_HB := Aside0.mk (below_step HB.out hb1_);clear HB;have HB := n_HB;clear n_HB
 have n_HSZ := Aside0.mk (And.intro HSZ.out hb1_.size);clear HSZ;have HSZ := n_HSZ;clear n_HSZ
 clear hb hb1_
 go_wp2_with fail
 refine (laws_toIntSS.calls k _ _ l0 y1 _ (by repeat (first|(with_reducible exact HL0.out.now)|(with_reducible refine Kd.C_alloc ?_ _)|(with_reducible refine Kd.C_drewN ?_ _)|(with_reducible refine Kd.C_drew ?_)|exact HL0.out.now)) HC0.out HF11.out).mono ?_
 rintro e W8 ⟨v_, rfl, ho, hb⟩
 have hb1_ : Below W7.heap.size W7 W8 := below_step (by repeat (first|(with_reducible exact Below.refl _ _)|apply below_alloc|apply pw_below_drewN|apply below_drew1)) hb
 have n_HL0 := Aside0.mk (HL0.out.below hb1_)
 have n_HL1 := Aside0.mk (HL1.out.below hb1_)
 have n_Hy0 := Aside0.mk (Hy0.out.below hb1_)
 have n_Hz0 := Aside0.mk (Hz0.out.below hb1_)
 have n_Hw0 := Aside0.mk (Hw0.out.below hb1_)
 have n_Hx0 := Aside0.mk (Hx0.out.below hb1_)
 have n_Hx1 := Aside0.mk (Hx1.out.below hb1_)
 have n_Hg0 := Aside0.mk (Hg0.out.below hb1_)
 clear HL0
 have HL0 := n_HL0
 clear n_HL0
 clear HL1
 have HL1 := n_HL1
 clear n_HL1
 clear Hy0
 have Hy0 := n_Hy0
 clear n_Hy0
 clear Hz0
 have Hz0 := n_Hz0
 clear n_Hz0
 clear Hw0
 have Hw0 := n_Hw0
 clear n_Hw0
 clear Hx0
 have Hx0 := n_Hx0
 clear n_Hx0
 clear Hx1
 have Hx1 := n_Hx1
 clear n_Hx1
 clear Hg0
 have Hg0 := n_Hg0
 clear n_Hg0
 have n_HB := Aside0.mk (below_step HB.out hb1_);clear HB;have HB := n_HB;clear n_HB
 have n_HSZ := Aside0.mk (And.intro HSZ.out hb1_.size);clear HSZ;have HSZ := n_HSZ;clear n_HSZ
 have Hy1 : Aside0 (Wr W8 W7.heap.size W8.heap.size v_ y1) := ⟨Wr.ofS ho⟩
 obtain ⟨A_y1, c_y1, e_y1, hc_y1⟩ := Hy1.out.form;subst e_y1
 have HC_y1 := Aside0.mk hc_y1;clear hc_y1
 clear hb hb1_ ho
 go_wp2_with fail
 refine (laws_eqIntSS.calls k _ _ x0 _ _ y1 true _ (by repeat (first|(with_reducible exact Hx0.out.now)|(with_reducible refine Kd.C_alloc ?_ _)|(with_reducible refine Kd.C_drewN ?_ _)|(with_reducible refine Kd.C_drew ?_)|exact Hx0.out.now)) HC_x0.out (by repeat (first|(with_reducible exact Hy1.out.now)|(with_reducible refine Kd.C_alloc ?_ _)|(with_reducible refine Kd.C_drewN ?_ _)|(with_reducible refine Kd.C_drew ?_)|exact Hy1.out.now)) HC_y1.out HF12.out).mono ?_
 rintro e w' ⟨rfl, ⟨nd, rfl⟩⟩
 go_wp2_with fail
 refine (laws_toIntS.calls k _ _ l1 z1 _ (by repeat (first|(with_reducible exact HL1.out.now)|(with_reducible refine Kd.C_alloc ?_ _)|(with_reducible refine Kd.C_drewN ?_ _)|(with_reducible refine Kd.C_drew ?_)|exact HL1.out.now)) HC1.out HF13.out).mono ?_
 rintro e W9 ⟨v_, rfl, ho, hb⟩
 have hb1_ : Below W8.heap.size W8 W9 := below_step (by repeat (first|(with_reducible exact Below.refl _ _)|apply below_alloc|apply pw_below_drewN|apply below_drew1)) hb
 have n_HL0 := Aside0.mk (HL0.out.below hb1_)
 have n_HL1 := Aside0.mk (HL1.out.below hb1_)
 have n_Hy0 := Aside0.mk (Hy0.out.below hb1_)
 have n_Hz0 := Aside0.mk (Hz0.out.below hb1_)
 have n_Hw0 := Aside0.mk (Hw0.out.below hb1_)
 have n_Hx0 := Aside0.mk (Hx0.out.below hb1_)
 have n_Hx1 := Aside0.mk (Hx1.out.below hb1_)
 have n_Hg0 := Aside0.mk (Hg0.out.below hb1_)
 have n_Hy1 := Aside0.mk (Hy1.out.below hb1_)
 clear HL0
 have HL0 := n_HL0
 clear n_HL0
 clear HL1
 have HL1 := n_HL1
 clear n_HL1
 clear Hy0
 have Hy0 := n_Hy0
 clear n_Hy0
 clear Hz0
 have Hz0 := n_Hz0
 clear n_Hz0
 clear Hw0
 have Hw0 := n_Hw0
 clear n_Hw0
 clear Hx0
 have Hx0 := n_Hx0
 clear n_Hx0
 clear Hx1
 have Hx1 := n_Hx1
 clear n_Hx1
 clear Hg0
 have Hg0 := n_Hg0
 clear n_Hg0
 clear Hy1
 have Hy1 := n_Hy1
 clear n_Hy1
 have n_HB := Aside0.mk (below_step HB.out hb1_);clear HB;have HB := n_HB;clear n_HB
 have n_HSZ := Aside0.mk (And.intro HSZ.out hb1_.size);clear HSZ;have HSZ := n_HSZ;clear n_HSZ
 obtain ⟨A_z1, c_z1, e_z1, hc_z1, hr_z1⟩ := Rd.ofR ho;subst e_z1
 have Hz1 : Aside0 (Rd (Kd.int .i64) W9 W8.heap.size W9.heap.size A_z1 z1) := ⟨hr_z1⟩;clear hr_z1
 have HC_z1 := Aside0.mk hc_z1;clear hc_z1
 clear hb hb1_ ho
 go_wp2_with fail
 refine (laws_eqIntS.calls k _ _ x1 _ _ z1 true _ (by repeat (first|(with_reducible exact Hx1.out.now)|(with_reducible refine Kd.C_alloc ?_ _)|(with_reducible refine Kd.C_drewN ?_ _)|(with_reducible refine Kd.C_drew ?_)|exact Hx1.out.now)) HC_x1.out (by repeat (first|(with_reducible exact Hz1.out.now)|(with_reducible refine Kd.C_alloc ?_ _)|(with_reducible refine Kd.C_drewN ?_ _)|(with_reducible refine Kd.C_drew ?_)|exact Hz1.out.now)) HC_z1.out HF14.out).mono ?_
 rintro e w' ⟨rfl, ⟨nd, rfl⟩⟩
 go_wp2_with fail
 refine (laws_markIntSS.calls k W3.heap.size W4.heap.size _ x0 1 k1 xm w _ (by repeat first|(with_reducible first|exact HB.out|apply below_alloc|apply pw_below_drewN|apply below_drew1)|exact HB.out) (by have := HSZ.out;omega) (by repeat (first|(with_reducible exact Hx0.out)|(with_reducible refine Wr.drewN ?_ _))) HF15.out).mono ?_
 rintro e W10 ⟨rfl, hR, hb, hk0⟩
 have hk_ : Kept W9 W10 (fun k_ => W3.heap.size ≤ k_ ∧ k_ < W4.heap.size) := hk0;clear hk0
 have n_HL0 := Aside0.mk (HL0.out.kept hk_ (by intro k_ h1_ h2_ h3_;have := HSZ.out;omega))
 have n_HL1 := Aside0.mk (HL1.out.kept hk_ (by intro k_ h1_ h2_ h3_;have := HSZ.out;omega))
 have n_Hy0 := Aside0.mk (Hy0.out.kept hk_ (by intro k_ h1_ h2_ h3_;have := HSZ.out;omega))
 have n_Hz0 := Aside0.mk (Hz0.out.kept hk_ (by intro k_ h1_ h2_ h3_;have := HSZ.out;omega))
 have n_Hw0 := Aside0.mk (Hw0.out.kept hk_ (by intro k_ h1_ h2_ h3_;have := HSZ.out;omega))
 have n_Hx1 := Aside0.mk (Hx1.out.kept hk_ (by intro k_ h1_ h2_ h3_;have := HSZ.out;omega))
 have n_Hg0 := Aside0.mk (Hg0.out.kept hk_ (by intro k_ h1_ h2_ h3_;have := HSZ.out;omega))
 have n_Hy1 := Aside0.mk (Hy1.out.kept hk_ (by intro k_ h1_ h2_ h3_;have := HSZ.out;omega))
 have n_Hz1 := Aside0.mk (Hz1.out.kept hk_ (by intro k_ h1_ h2_ h3_;have := HSZ.out;omega))
 clear HL0
 have HL0 := n_HL0
 clear n_HL0
 clear HL1
 have HL1 := n_HL1
 clear n_HL1
 clear Hy0
 have Hy0 := n_Hy0
 clear n_Hy0
 clear Hz0
 have Hz0 := n_Hz0
 clear n_Hz0
 clear Hw0
 have Hw0 := n_Hw0
 clear n_Hw0
 clear Hx1
 have Hx1 := n_Hx1
 clear n_Hx1
 clear Hg0
 have Hg0 := n_Hg0
 clear n_Hg0
 clear Hy1
 have Hy1 := n_Hy1
 clear n_Hy1
 clear Hz1
 have Hz1 := n_Hz1
 clear n_Hz1
 have n_Hx0 : Aside0 (Wr W10 W3.heap.size W4.heap.size _ xm) := ⟨hR⟩
 clear Hx0;have Hx0 := n_Hx0;clear n_Hx0
 have n_HSZ := Aside0.mk (And.intro HSZ.out hk_.1);clear HSZ;have HSZ := n_HSZ;clear n_HSZ
 clear HB;have HB := Aside0.mk hb
 have hl_xm : x0.length = xm.length := (laws_markIntSS.len k _ _ _ _ HF15.out)
 have HC_xm : Aside0 (xm.length ≤ c_x0) := ⟨by rw [← hl_xm];exact HC_x0.out⟩
 rw [hl_xm] at Hx0 ⊢
 clear hb hk_ hR
 go_wp2_with fail
 refine (laws_markIntS.calls k (fun k_ => some k_ = (.slice A_x1 x1.length c_x1 : Value).ownBlock) _ x1 k1 k2 xn w _ (by repeat first|(with_reducible first|exact HB.out|apply below_alloc|apply pw_below_drewN|apply below_drew1)|exact HB.out) (by repeat (first|(with_reducible exact Hx1.out.tight rfl)|(with_reducible refine Kd.R_drewN ?_ _))) HF16.out).mono ?_
 rintro e W11 ⟨rfl, hR, hb, hk0⟩
 have hk_ : Kept W10 W11 (fun k_ => some k_ = (.slice A_x1 x1.length c_x1 : Value).ownBlock) := hk0;clear hk0
 have n_HL0 := Aside0.mk (HL0.out.kept hk_ (by intro k_ h1_ h2_ h3_;have h4_ := Hx1.out.2.1 k_ h3_.symm;have := HSZ.out;omega))
 have n_HL1 := Aside0.mk (HL1.out.kept hk_ (by intro k_ h1_ h2_ h3_;have h4_ := Hx1.out.2.1 k_ h3_.symm;have := HSZ.out;omega))
 have n_Hy0 := Aside0.mk (Hy0.out.kept hk_ (by intro k_ h1_ h2_ h3_;have h4_ := Hx1.out.2.1 k_ h3_.symm;have := HSZ.out;omega))
 have n_Hz0 := Aside0.mk (Hz0.out.kept hk_ (by intro k_ h1_ h2_ h3_;have h4_ := Hx1.out.2.1 k_ h3_.symm;have := HSZ.out;omega))
 have n_Hw0 := Aside0.mk (Hw0.out.kept hk_ (by intro k_ h1_ h2_ h3_;have h4_ := Hx1.out.2.1 k_ h3_.symm;have := HSZ.out;omega))
 have n_Hg0 := Aside0.mk (Hg0.out.kept hk_ (by intro k_ h1_ h2_ h3_;have h4_ := Hx1.out.2.1 k_ h3_.symm;have := HSZ.out;omega))
 have n_Hy1 := Aside0.mk (Hy1.out.kept hk_ (by intro k_ h1_ h2_ h3_;have h4_ := Hx1.out.2.1 k_ h3_.symm;have := HSZ.out;omega))
 have n_Hz1 := Aside0.mk (Hz1.out.kept hk_ (by intro k_ h1_ h2_ h3_;have h4_ := Hx1.out.2.1 k_ h3_.symm;have := HSZ.out;omega))
 have n_Hx0 := Aside0.mk (Hx0.out.kept hk_ (by intro k_ h1_ h2_ h3_;have h4_ := Hx1.out.2.1 k_ h3_.symm;have := HSZ.out;omega))
 clear HL0
 have HL0 := n_HL0
 clear n_HL0
 clear HL1
 have HL1 := n_HL1
 clear n_HL1
 clear Hy0
 have Hy0 := n_Hy0
 clear n_Hy0
 clear Hz0
 have Hz0 := n_Hz0
 clear n_Hz0
 clear Hw0
 have Hw0 := n_Hw0
 clear n_Hw0
 clear Hg0
 have Hg0 := n_Hg0
 clear n_Hg0
 clear Hy1
 have Hy1 := n_Hy1
 clear n_Hy1
 clear Hz1
 have Hz1 := n_Hz1
 clear n_Hz1
 clear Hx0
 have Hx0 := n_Hx0
 clear n_Hx0
 have n_Hx1 := Aside0.mk (WR.marked Hx1.out rfl hk_ hR)
 clear Hx1;have Hx1 := n_Hx1;clear n_Hx1
 have n_HSZ := Aside0.mk (And.intro HSZ.out hk_.1);clear HSZ;have HSZ := n_HSZ;clear n_HSZ
 clear HB;have HB := Aside0.mk hb
 have hl_xn : x1.length = xn.length := Hx1.out.len
 have HC_xn : Aside0 (xn.length ≤ c_x1) := ⟨by rw [← hl_xn];exact HC_x1.out⟩
 rw [hl_xn] at Hx1 ⊢
 clear hb hk_ hR
 go_wp2_with fail
 refine (laws_eqRatioS.calls k _ _ g0 _ _ w0 true _ (by repeat (first|(with_reducible exact Hg0.out.now)|(with_reducible refine Kd.C_alloc ?_ _)|(with_reducible refine Kd.C_drewN ?_ _)|(with_reducible refine Kd.C_drew ?_)|exact Hg0.out.now)) HC_g0.out (by repeat (first|(with_reducible exact Hw0.out.now)|(with_reducible refine Kd.C_alloc ?_ _)|(with_reducible refine Kd.C_drewN ?_ _)|(with_reducible refine Kd.C_drew ?_)|exact Hw0.out.now)) HC_w0.out HF18.out).mono ?_
 rintro e W12 ⟨rfl, hb⟩
 have hb1_ : Below W11.heap.size W11 W12 := below_step (by repeat (first|(with_reducible exact Below.refl _ _)|apply below_alloc|apply pw_below_drewN|apply below_drew1)) hb
 have n_HL0 := Aside0.mk (HL0.out.below hb1_)
 have n_HL1 := Aside0.mk (HL1.out.below hb1_)
 have n_Hy0 := Aside0.mk (Hy0.out.below hb1_)
 have n_Hz0 := Aside0.mk (Hz0.out.below hb1_)
 have n_Hw0 := Aside0.mk (Hw0.out.below hb1_)
 have n_Hg0 := Aside0.mk (Hg0.out.below hb1_)
 have n_Hy1 := Aside0.mk (Hy1.out.below hb1_)
 have n_Hz1 := Aside0.mk (Hz1.out.below hb1_)
 have n_Hx0 := Aside0.mk (Hx0.out.below hb1_)
 have n_Hx1 := Aside0.mk (Hx1.out.below hb1_)
 clear HL0
 have HL0 := n_HL0
 clear n_HL0
 clear HL1
 have HL1 := n_HL1
 clear n_HL1
 clear Hy0
 have Hy0 := n_Hy0
 clear n_Hy0
 clear Hz0
 have Hz0 := n_Hz0
 clear n_Hz0
 clear Hw0
 have Hw0 := n_Hw0
 clear n_Hw0
 clear Hg0
 have Hg0 := n_Hg0
 clear n_Hg0
 clear Hy1
 have Hy1 := n_Hy1
 clear n_Hy1
 clear Hz1
 have Hz1 := n_Hz1
 clear n_Hz1
 clear Hx0
 have Hx0 := n_Hx0
 clear n_Hx0
 clear Hx1
 have Hx1 := n_Hx1
 clear n_Hx1
 have n_HB := Aside0.mk (below_step HB.out hb1_);clear HB;have HB := n_HB;clear n_HB
 have n_HSZ := Aside0.mk (And.intro HSZ.out hb1_.size);clear HSZ;have HSZ := n_HSZ;clear n_HSZ
 clear hb hb1_
 go_wp2_with fail
 refine (laws_markRatioS.calls k (fun k_ => some k_ = (.slice A_g0 g0.length c_g0 : Value).ownBlock) _ g0 1 m1 gm w _ (by repeat first|(with_reducible first|exact HB.out|apply below_alloc|apply pw_below_drewN|apply below_drew1)|exact HB.out) (by repeat (first|(with_reducible exact Hg0.out.tight rfl)|(with_reducible refine Kd.R_drewN ?_ _))) HF19.out).mono ?_
 rintro e W13 ⟨rfl, hR, hb, hk0⟩
 have hk_ : Kept W12 W13 (fun k_ => some k_ = (.slice A_g0 g0.length c_g0 : Value).ownBlock) := hk0;clear hk0
 have n_HL0 := Aside0.mk (HL0.out.kept hk_ (by intro k_ h1_ h2_ h3_;have h4_ := Hg0.out.2.1 k_ h3_.symm;have := HSZ.out;omega))
 have n_HL1 := Aside0.mk (HL1.out.kept hk_ (by intro k_ h1_ h2_ h3_;have h4_ := Hg0.out.2.1 k_ h3_.symm;have := HSZ.out;omega))
 have n_Hy0 := Aside0.mk (Hy0.out.kept hk_ (by intro k_ h1_ h2_ h3_;have h4_ := Hg0.out.2.1 k_ h3_.symm;have := HSZ.out;omega))
 have n_Hz0 := Aside0.mk (Hz0.out.kept hk_ (by intro k_ h1_ h2_ h3_;have h4_ := Hg0.out.2.1 k_ h3_.symm;have := HSZ.out;omega))
 have n_Hw0 := Aside0.mk (Hw0.out.kept hk_ (by intro k_ h1_ h2_ h3_;have h4_ := Hg0.out.2.1 k_ h3_.symm;have := HSZ.out;omega))
 have n_Hy1 := Aside0.mk (Hy1.out.kept hk_ (by intro k_ h1_ h2_ h3_;have h4_ := Hg0.out.2.1 k_ h3_.symm;have := HSZ.out;omega))
 have n_Hz1 := Aside0.mk (Hz1.out.kept hk_ (by intro k_ h1_ h2_ h3_;have h4_ := Hg0.out.2.1 k_ h3_.symm;have := HSZ.out;omega))
 have n_Hx0 := Aside0.mk (Hx0.out.kept hk_ (by intro k_ h1_ h2_ h3_;have h4_ := Hg0.out.2.1 k_ h3_.symm;have := HSZ.out;omega))
 have n_Hx1 := Aside0.mk (Hx1.out.kept hk_ (by intro k_ h1_ h2_ h3_;have h4_ := Hg0.out.2.1 k_ h3_.symm;have := HSZ.out;omega))
 clear HL0
 have HL0 := n_HL0
 clear n_HL0
 clear HL1
 have HL1 := n_HL1
 clear n_HL1
 clear Hy0
 have Hy0 := n_Hy0
 clear n_Hy0
 clear Hz0
 have Hz0 := n_Hz0
 clear n_Hz0
 clear Hw0
 have Hw0 := n_Hw0
 clear n_Hw0
 clear Hy1
 have Hy1 := n_Hy1
 clear n_Hy1
 clear Hz1
 have Hz1 := n_Hz1
 clear n_Hz1
 clear Hx0
 have Hx0 := n_Hx0
 clear n_Hx0
 clear Hx1
 have Hx1 := n_Hx1
 clear n_Hx1
 have n_Hg0 := Aside0.mk (WR.marked Hg0.out rfl hk_ hR)
 clear Hg0;have Hg0 := n_Hg0;clear n_Hg0
 have n_HSZ := Aside0.mk (And.intro HSZ.out hk_.1);clear HSZ;have HSZ := n_HSZ;clear n_HSZ
 clear HB;have HB := Aside0.mk hb
 have hl_gm : g0.length = gm.length := Hg0.out.len
 have HC_gm : Aside0 (gm.length ≤ c_g0) := ⟨by rw [← hl_gm];exact HC_g0.out⟩
 rw [hl_gm] at Hg0 ⊢
 clear hb hk_ hR
 go_wp2_with fail
 refine (laws_heldRatioS.calls k _ _ gm 1 m1 _ (by repeat (first|(with_reducible exact Hg0.out.now)|(with_reducible refine Kd.C_alloc ?_ _)|(with_reducible refine Kd.C_drewN ?_ _)|(with_reducible refine Kd.C_drew ?_)|exact Hg0.out.now)) HC_gm.out HF20.out).mono ?_
 rintro e w' ⟨rfl, ⟨nd, rfl⟩⟩
 go_wp2_with fail
 refine (laws_toIntSS.calls k _ _ l0 y2 _ (by repeat (first|(with_reducible exact HL0.out.now)|(with_reducible refine Kd.C_alloc ?_ _)|(with_reducible refine Kd.C_drewN ?_ _)|(with_reducible refine Kd.C_drew ?_)|exact HL0.out.now)) HC0.out HF23.out).mono ?_
 rintro e W14 ⟨v_, rfl, ho, hb⟩
 have hb1_ : Below W13.heap.size W13 W14 := below_step (by repeat (first|(with_reducible exact Below.refl _ _)|apply below_alloc|apply pw_below_drewN|apply below_drew1)) hb
 have n_HL0 := Aside0.mk (HL0.out.below hb1_)
 have n_HL1 := Aside0.mk (HL1.out.below hb1_)
 have n_Hy0 := Aside0.mk (Hy0.out.below hb1_)
 have n_Hz0 := Aside0.mk (Hz0.out.below hb1_)
 have n_Hw0 := Aside0.mk (Hw0.out.below hb1_)
 have n_Hy1 := Aside0.mk (Hy1.out.below hb1_)
 have n_Hz1 := Aside0.mk (Hz1.out.below hb1_)
 have n_Hx0 := Aside0.mk (Hx0.out.below hb1_)
 have n_Hx1 := Aside0.mk (Hx1.out.below hb1_)
 have n_Hg0 := Aside0.mk (Hg0.out.below hb1_)
 clear HL0
 have HL0 := n_HL0
 clear n_HL0
 clear HL1
 have HL1 := n_HL1
 clear n_HL1
 clear Hy0
 have Hy0 := n_Hy0
 clear n_Hy0
 clear Hz0
 have Hz0 := n_Hz0
 clear n_Hz0
 clear Hw0
 have Hw0 := n_Hw0
 clear n_Hw0
 clear Hy1
 have Hy1 := n_Hy1
 clear n_Hy1
 clear Hz1
 have Hz1 := n_Hz1
 clear n_Hz1
 clear Hx0
 have Hx0 := n_Hx0
 clear n_Hx0
 clear Hx1
 have Hx1 := n_Hx1
 clear n_Hx1
 clear Hg0
 have Hg0 := n_Hg0
 clear n_Hg0
 have n_HB := Aside0.mk (below_step HB.out hb1_);clear HB;have HB := n_HB;clear n_HB
 have n_HSZ := Aside0.mk (And.intro HSZ.out hb1_.size);clear HSZ;have HSZ := n_HSZ;clear n_HSZ
 have Hy2 : Aside0 (Wr W14 W13.heap.size W14.heap.size v_ y2) := ⟨Wr.ofS ho⟩
 obtain ⟨A_y2, c_y2, e_y2, hc_y2⟩ := Hy2.out.form;subst e_y2
 have HC_y2 := Aside0.mk hc_y2;clear hc_y2
 clear hb hb1_ ho
 go_wp2_with fail
 refine (laws_toIntS.calls k _ _ l1 z2 _ (by repeat (first|(with_reducible exact HL1.out.now)|(with_reducible refine Kd.C_alloc ?_ _)|(with_reducible refine Kd.C_drewN ?_ _)|(with_reducible refine Kd.C_drew ?_)|exact HL1.out.now)) HC1.out HF24.out).mono ?_
 rintro e W15 ⟨v_, rfl, ho, hb⟩
 have hb1_ : Below W14.heap.size W14 W15 := below_step (by repeat (first|(with_reducible exact Below.refl _ _)|apply below_alloc|apply pw_below_drewN|apply below_drew1)) hb
 have n_HL0 := Aside0.mk (HL0.out.below hb1_)
 have n_HL1 := Aside0.mk (HL1.out.below hb1_)
 have n_Hy0 := Aside0.mk (Hy0.out.below hb1_)
 have n_Hz0 := Aside0.mk (Hz0.out.below hb1_)
 have n_Hw0 := Aside0.mk (Hw0.out.below hb1_)
 have n_Hy1 := Aside0.mk (Hy1.out.below hb1_)
 have n_Hz1 := Aside0.mk (Hz1.out.below hb1_)
 have n_Hx0 := Aside0.mk (Hx0.out.below hb1_)
 have n_Hx1 := Aside0.mk (Hx1.out.below hb1_)
 have n_Hg0 := Aside0.mk (Hg0.out.below hb1_)
 have n_Hy2 := Aside0.mk (Hy2.out.below hb1_)
 clear HL0
 have HL0 := n_HL0
 clear n_HL0
 clear HL1
 have HL1 := n_HL1
 clear n_HL1
 clear Hy0
 have Hy0 := n_Hy0
 clear n_Hy0
 clear Hz0
 have Hz0 := n_Hz0
 clear n_Hz0
 clear Hw0
 have Hw0 := n_Hw0
 clear n_Hw0
 clear Hy1
 have Hy1 := n_Hy1
 clear n_Hy1
 clear Hz1
 have Hz1 := n_Hz1
 clear n_Hz1
 clear Hx0
 have Hx0 := n_Hx0
 clear n_Hx0
 clear Hx1
 have Hx1 := n_Hx1
 clear n_Hx1
 clear Hg0
 have Hg0 := n_Hg0
 clear n_Hg0
 clear Hy2
 have Hy2 := n_Hy2
 clear n_Hy2
 have n_HB := Aside0.mk (below_step HB.out hb1_);clear HB;have HB := n_HB;clear n_HB
 have n_HSZ := Aside0.mk (And.intro HSZ.out hb1_.size);clear HSZ;have HSZ := n_HSZ;clear n_HSZ
 obtain ⟨A_z2, c_z2, e_z2, hc_z2, hr_z2⟩ := Rd.ofR ho;subst e_z2
 have Hz2 : Aside0 (Rd (Kd.int .i64) W15 W14.heap.size W15.heap.size A_z2 z2) := ⟨hr_z2⟩;clear hr_z2
 have HC_z2 := Aside0.mk hc_z2;clear hc_z2
 clear hb hb1_ ho
 go_wp2_with fail
 refine (impl_SolutionOf.calls k _ _ y2 _ _ z2 a2 h0 w1 _ (by repeat (first|(with_reducible exact Hy2.out.now)|(with_reducible refine Kd.C_alloc ?_ _)|(with_reducible refine Kd.C_drewN ?_ _)|(with_reducible refine Kd.C_drew ?_)|exact Hy2.out.now)) HC_y2.out (by repeat (first|(with_reducible exact Hz2.out.now)|(with_reducible refine Kd.C_alloc ?_ _)|(with_reducible refine Kd.C_drewN ?_ _)|(with_reducible refine Kd.C_drew ?_)|exact Hz2.out.now)) HC_z2.out HF25.out).mono ?_
 rintro e W16 ⟨v_, rfl, ho, hb⟩
 have hb1_ : Below W15.heap.size W15 W16 := below_step (by repeat (first|(with_reducible exact Below.refl _ _)|apply below_alloc|apply pw_below_drewN|apply below_drew1)) hb
 have n_HL0 := Aside0.mk (HL0.out.below hb1_)
 have n_HL1 := Aside0.mk (HL1.out.below hb1_)
 have n_Hy0 := Aside0.mk (Hy0.out.below hb1_)
 have n_Hz0 := Aside0.mk (Hz0.out.below hb1_)
 have n_Hw0 := Aside0.mk (Hw0.out.below hb1_)
 have n_Hy1 := Aside0.mk (Hy1.out.below hb1_)
 have n_Hz1 := Aside0.mk (Hz1.out.below hb1_)
 have n_Hx0 := Aside0.mk (Hx0.out.below hb1_)
 have n_Hx1 := Aside0.mk (Hx1.out.below hb1_)
 have n_Hg0 := Aside0.mk (Hg0.out.below hb1_)
 have n_Hy2 := Aside0.mk (Hy2.out.below hb1_)
 have n_Hz2 := Aside0.mk (Hz2.out.below hb1_)
 clear HL0
 have HL0 := n_HL0
 clear n_HL0
 clear HL1
 have HL1 := n_HL1
 clear n_HL1
 clear Hy0
 have Hy0 := n_Hy0
 clear n_Hy0
 clear Hz0
 have Hz0 := n_Hz0
 clear n_Hz0
 clear Hw0
 have Hw0 := n_Hw0
 clear n_Hw0
 clear Hy1
 have Hy1 := n_Hy1
 clear n_Hy1
 clear Hz1
 have Hz1 := n_Hz1
 clear n_Hz1
 clear Hx0
 have Hx0 := n_Hx0
 clear n_Hx0
 clear Hx1
 have Hx1 := n_Hx1
 clear n_Hx1
 clear Hg0
 have Hg0 := n_Hg0
 clear n_Hg0
 clear Hy2
 have Hy2 := n_Hy2
 clear n_Hy2
 clear Hz2
 have Hz2 := n_Hz2
 clear n_Hz2
 have n_HB := Aside0.mk (below_step HB.out hb1_);clear HB;have HB := n_HB;clear n_HB
 have n_HSZ := Aside0.mk (And.intro HSZ.out hb1_.size);clear HSZ;have HSZ := n_HSZ;clear n_HSZ
 obtain ⟨A_h0, c_h0, e_h0, hc_h0, hr_h0⟩ := Rd.ofR ho;subst e_h0
 have Hh0 : Aside0 (Rd k26 W16 W15.heap.size W16.heap.size A_h0 h0) := ⟨hr_h0⟩;clear hr_h0
 have HC_h0 := Aside0.mk hc_h0;clear hc_h0
 clear hb hb1_ ho
 go_wp2_with fail
 refine (laws_eqRatioS.calls k _ _ h0 _ _ w0 true _ (by repeat (first|(with_reducible exact Hh0.out.now)|(with_reducible refine Kd.C_alloc ?_ _)|(with_reducible refine Kd.C_drewN ?_ _)|(with_reducible refine Kd.C_drew ?_)|exact Hh0.out.now)) HC_h0.out (by repeat (first|(with_reducible exact Hw0.out.now)|(with_reducible refine Kd.C_alloc ?_ _)|(with_reducible refine Kd.C_drewN ?_ _)|(with_reducible refine Kd.C_drew ?_)|exact Hw0.out.now)) HC_w0.out HF26.out).mono ?_
 rintro e W17 ⟨rfl, hb⟩
 have hb1_ : Below W16.heap.size W16 W17 := below_step (by repeat (first|(with_reducible exact Below.refl _ _)|apply below_alloc|apply pw_below_drewN|apply below_drew1)) hb
 have n_HL0 := Aside0.mk (HL0.out.below hb1_)
 have n_HL1 := Aside0.mk (HL1.out.below hb1_)
 have n_Hy0 := Aside0.mk (Hy0.out.below hb1_)
 have n_Hz0 := Aside0.mk (Hz0.out.below hb1_)
 have n_Hw0 := Aside0.mk (Hw0.out.below hb1_)
 have n_Hy1 := Aside0.mk (Hy1.out.below hb1_)
 have n_Hz1 := Aside0.mk (Hz1.out.below hb1_)
 have n_Hx0 := Aside0.mk (Hx0.out.below hb1_)
 have n_Hx1 := Aside0.mk (Hx1.out.below hb1_)
 have n_Hg0 := Aside0.mk (Hg0.out.below hb1_)
 have n_Hy2 := Aside0.mk (Hy2.out.below hb1_)
 have n_Hz2 := Aside0.mk (Hz2.out.below hb1_)
 have n_Hh0 := Aside0.mk (Hh0.out.below hb1_)
 clear HL0
 have HL0 := n_HL0
 clear n_HL0
 clear HL1
 have HL1 := n_HL1
 clear n_HL1
 clear Hy0
 have Hy0 := n_Hy0
 clear n_Hy0
 clear Hz0
 have Hz0 := n_Hz0
 clear n_Hz0
 clear Hw0
 have Hw0 := n_Hw0
 clear n_Hw0
 clear Hy1
 have Hy1 := n_Hy1
 clear n_Hy1
 clear Hz1
 have Hz1 := n_Hz1
 clear n_Hz1
 clear Hx0
 have Hx0 := n_Hx0
 clear n_Hx0
 clear Hx1
 have Hx1 := n_Hx1
 clear n_Hx1
 clear Hg0
 have Hg0 := n_Hg0
 clear n_Hg0
 clear Hy2
 have Hy2 := n_Hy2
 clear n_Hy2
 clear Hz2
 have Hz2 := n_Hz2
 clear n_Hz2
 clear Hh0
 have Hh0 := n_Hh0
 clear n_Hh0
 have n_HB := Aside0.mk (below_step HB.out hb1_);clear HB;have HB := n_HB;clear n_HB
 have n_HSZ := Aside0.mk (And.intro HSZ.out hb1_.size);clear HSZ;have HSZ := n_HSZ;clear n_HSZ
 clear hb hb1_
 go_wp2_with fail
 refine (laws_heldRatioS.calls k _ _ gm 1 m1 _ (by repeat (first|(with_reducible exact Hg0.out.now)|(with_reducible refine Kd.C_alloc ?_ _)|(with_reducible refine Kd.C_drewN ?_ _)|(with_reducible refine Kd.C_drew ?_)|exact Hg0.out.now)) HC_gm.out HF28.out).mono ?_
 rintro e w' ⟨rfl, ⟨nd, rfl⟩⟩
 go_wp2
 go_ret
 exact ⟨rfl, (by repeat first|(with_reducible first|exact HB.out|apply below_alloc|apply pw_below_drewN|apply below_drew1)|exact HB.out)⟩
end Go.Proofs.Ytojkepidkmkmpaa.PFnExactSolutionOf
end
