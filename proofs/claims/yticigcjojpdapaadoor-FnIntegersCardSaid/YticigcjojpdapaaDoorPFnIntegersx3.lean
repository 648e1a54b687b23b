/- Functions that the law FnIntegers reaches, walked: each Go function comes to the answers of the Lean function beside it. Conditions: none of its own. Written by programs. -/
import Derived.Test.YticigcjojpdapaaDoorPFnIntegersx0
import Derived.Test.YticigcjojpdapaaDoorPFnIntegersx1
import Derived.Test.YticigcjojpdapaaDoorPFnIntegersx2
namespace Go.Proofs.YticigcjojpdapaaDoor.PFnIntegers
open Go.RowKit Go.Proofs.YticigcjojpdapaaDoorW.PrintWords Go.Proofs.YticigcjojpdapaaDoorW.PrintLast Go.Proofs.YticigcjojpdapaaDoorW.PrintMore
attribute [local go_sem] max2_int min2_int max_two min_two max_three min_three max_four min_four   -- for this text's walks alone
set_option linter.unusedVariables false
set_option linter.unusedSimpArgs false

/-! ### impl_CeilDiv: function 19 -/
def impl_CeilDiv.f (a0 : Int) (a1 : Int) : Option (Int) := (impl_InRange.f a0 0 1000000000000).bind fun t240 => (if t240 = true then ((impl_InRange.f a1 1 1000000000000).bind fun t241 => (if t241 = true then (if a1 = 0 then (none) else (some (wrap64 (Int.tdiv (wrap64 ((wrap64 (a0 + a1)) - 1)) a1)))) else (some 0))) else (some 0))
set_option maxHeartbeats 8000000 in
set_option maxRecDepth 100000 in
theorem impl_CeilDiv.calls (a0 : Int) (a1 : Int) (r : Int) (w : World) (h : impl_CeilDiv.f a0 a1 = some r) :
    Calls Tryd.prog 19 #[.int .i64 a0, .int .i64 a1] w fun e w' => e = .returned (.int .i64 r) ∧ Drawn0 w w' := by
  have H : ((impl_InRange.f a0 0 1000000000000).bind fun t240 => (if t240 = true then ((impl_InRange.f a1 1 1000000000000).bind fun t241 => (if t241 = true then (if a1 = 0 then (none) else (some (wrap64 (Int.tdiv (wrap64 ((wrap64 (a0 + a1)) - 1)) a1)))) else (some 0))) else (some 0))) = some r := h
  clear h
  replace H := Option.bind_eq_some_iff.mp H
  obtain ⟨t240, A30, H⟩ := H
  replace H : (if t240 = true then ((impl_InRange.f a1 1 1000000000000).bind fun t241 => (if t241 = true then (if a1 = 0 then (none) else (some (wrap64 (Int.tdiv (wrap64 ((wrap64 (a0 + a1)) - 1)) a1)))) else (some 0))) else (some 0)) = some r := H
  have A3 := Aside0.mk A30
  clear A30
  by_cases c4 : t240 = true
  · subst c4
    have H1 : ((impl_InRange.f a1 1 1000000000000).bind fun t241 => (if t241 = true then (if a1 = 0 then (none) else (some (wrap64 (Int.tdiv (wrap64 ((wrap64 (a0 + a1)) - 1)) a1)))) else (some 0))) = some r := by rw [if_pos rfl] at H; exact H
    clear H
    have H := H1
    clear H1
    replace H := Option.bind_eq_some_iff.mp H
    obtain ⟨t241, A50, H⟩ := H
    replace H : (if t241 = true then (if a1 = 0 then (none) else (some (wrap64 (Int.tdiv (wrap64 ((wrap64 (a0 + a1)) - 1)) a1)))) else (some 0)) = some r := H
    have A5 := Aside0.mk A50
    clear A50
    by_cases c6 : t241 = true
    · subst c6
      have H1 : (if a1 = 0 then (none) else (some (wrap64 (Int.tdiv (wrap64 ((wrap64 (a0 + a1)) - 1)) a1)))) = some r := by rw [if_pos rfl] at H; exact H
      clear H
      have H := H1
      clear H1
      by_cases c7 : a1 = 0
      · rw [if_pos c7] at H
        exact absurd H (by simp)
      · rw [if_neg c7] at H
        have c7b0 : (a1 == 0) = false := beq_eq_false_iff_ne.mpr c7
        have c7b1 : (a1 != 0) = true := bne_iff_ne.mpr c7
        obtain rfl := Option.some.inj H
        go_enter Tryd.func19, Tryd.ntmps19
        go_wp2_with (first | ((with_reducible refine gate_callee (f := 35) rfl ?_); refine goesL_ (some 6) rfl rfl Tryd.func35 (by kernel_rfl) rfl #[.int .i64 a0, .int .i64 0, .int .i64 1000000000000] rfl (by (try simp only [List.map_toArray, List.map_cons, List.map_nil]); first | done | rfl | (simp only [List.length_drop, List.length_take]; rfl)) ?_; (with_reducible refine (impl_InRange.calls a0 0 1000000000000 true _ A3.out).mono ?_); rintro e w' ⟨rfl, ⟨nd, rfl⟩⟩; refine ⟨_, rfl, ?_⟩) | (go_at_call 35; (with_reducible refine (impl_InRange.calls a1 1 1000000000000 true _ A5.out).mono ?_); rintro e w' ⟨rfl, ⟨nd, rfl⟩⟩))
        go_ret
        exact ⟨by first | rfl | (simp; done) | (simp [*]; done), by repeat (first | exact Drawn0.refl _ | apply Drawn0.step)⟩
    · replace c6 := Bool.eq_false_iff.mpr c6
      subst c6
      have H1 : (some 0) = some r := by rw [if_neg (show ¬ (false = true) by decide)] at H; exact H
      clear H
      have H := H1
      clear H1
      obtain rfl := Option.some.inj H
      go_enter Tryd.func19, Tryd.ntmps19
      go_wp2_with (first | ((with_reducible refine gate_callee (f := 35) rfl ?_); refine goesL_ (some 6) rfl rfl Tryd.func35 (by kernel_rfl) rfl #[.int .i64 a0, .int .i64 0, .int .i64 1000000000000] rfl (by (try simp only [List.map_toArray, List.map_cons, List.map_nil]); first | done | rfl | (simp only [List.length_drop, List.length_take]; rfl)) ?_; (with_reducible refine (impl_InRange.calls a0 0 1000000000000 true _ A3.out).mono ?_); rintro e w' ⟨rfl, ⟨nd, rfl⟩⟩; refine ⟨_, rfl, ?_⟩) | (go_at_call 35; (with_reducible refine (impl_InRange.calls a1 1 1000000000000 false _ A5.out).mono ?_); rintro e w' ⟨rfl, ⟨nd, rfl⟩⟩))
      go_ret
      exact ⟨by first | rfl | (simp; done) | (simp [*]; done), by repeat (first | exact Drawn0.refl _ | apply Drawn0.step)⟩
  · replace c4 := Bool.eq_false_iff.mpr c4
    subst c4
    have H1 : (some 0) = some r := by rw [if_neg (show ¬ (false = true) by decide)] at H; exact H
    clear H
    have H := H1
    clear H1
    obtain rfl := Option.some.inj H
    go_enter Tryd.func19, Tryd.ntmps19
    go_wp2_with (first | ((with_reducible refine gate_callee (f := 35) rfl ?_); refine goesL_ (some 6) rfl rfl Tryd.func35 (by kernel_rfl) rfl #[.int .i64 a0, .int .i64 0, .int .i64 1000000000000] rfl (by (try simp only [List.map_toArray, List.map_cons, List.map_nil]); first | done | rfl | (simp only [List.length_drop, List.length_take]; rfl)) ?_; (with_reducible refine (impl_InRange.calls a0 0 1000000000000 false _ A3.out).mono ?_); rintro e w' ⟨rfl, ⟨nd, rfl⟩⟩; refine ⟨_, rfl, ?_⟩))
    go_ret
    exact ⟨by first | rfl | (simp; done) | (simp [*]; done), by repeat (first | exact Drawn0.refl _ | apply Drawn0.step)⟩

/-! ### impl_Mod: function 20 -/
def impl_Mod.f (a0 : Int) (a1 : Int) : Option (Int) := (impl_InRange.f a1 1 1000000000000).bind fun t242 => (if t242 = true then (if a1 = 0 then (none) else (some (Int.tmod (wrap64 ((Int.tmod a0 a1) + a1)) a1))) else (some 0))
set_option maxHeartbeats 8000000 in
set_option maxRecDepth 100000 in
theorem impl_Mod.calls (a0 : Int) (a1 : Int) (r : Int) (w : World) (h : impl_Mod.f a0 a1 = some r) :
    Calls Tryd.prog 20 #[.int .i64 a0, .int .i64 a1] w fun e w' => e = .returned (.int .i64 r) ∧ Drawn0 w w' := by
  have H : ((impl_InRange.f a1 1 1000000000000).bind fun t242 => (if t242 = true then (if a1 = 0 then (none) else (some (Int.tmod (wrap64 ((Int.tmod a0 a1) + a1)) a1))) else (some 0))) = some r := h
  clear h
  replace H := Option.bind_eq_some_iff.mp H
  obtain ⟨t242, A30, H⟩ := H
  replace H : (if t242 = true then (if a1 = 0 then (none) else (some (Int.tmod (wrap64 ((Int.tmod a0 a1) + a1)) a1))) else (some 0)) = some r := H
  have A3 := Aside0.mk A30
  clear A30
  by_cases c4 : t242 = true
  · subst c4
    have H1 : (if a1 = 0 then (none) else (some (Int.tmod (wrap64 ((Int.tmod a0 a1) + a1)) a1))) = some r := by rw [if_pos rfl] at H; exact H
    clear H
    have H := H1
    clear H1
    by_cases c5 : a1 = 0
    · rw [if_pos c5] at H
      exact absurd H (by simp)
    · rw [if_neg c5] at H
      have c5b0 : (a1 == 0) = false := beq_eq_false_iff_ne.mpr c5
      have c5b1 : (a1 != 0) = true := bne_iff_ne.mpr c5
      obtain rfl := Option.some.inj H
      go_enter Tryd.func20, Tryd.ntmps20
      go_wp2_with (first | ((with_reducible refine gate_callee (f := 35) rfl ?_); refine goesL_ (some 6) rfl rfl Tryd.func35 (by kernel_rfl) rfl #[.int .i64 a1, .int .i64 1, .int .i64 1000000000000] rfl (by (try simp only [List.map_toArray, List.map_cons, List.map_nil]); first | done | rfl | (simp only [List.length_drop, List.length_take]; rfl)) ?_; (with_reducible refine (impl_InRange.calls a1 1 1000000000000 true _ A3.out).mono ?_); rintro e w' ⟨rfl, ⟨nd, rfl⟩⟩; refine ⟨_, rfl, ?_⟩))
      go_ret
      exact ⟨by first | rfl | (simp; done) | (simp [*]; done), by repeat (first | exact Drawn0.refl _ | apply Drawn0.step)⟩
  · replace c4 := Bool.eq_false_iff.mpr c4
    subst c4
    have H1 : (some 0) = some r := by rw [if_neg (show ¬ (false = true) by decide)] at H; exact H
    clear H
    have H := H1
    clear H1
    obtain rfl := Option.some.inj H
    go_enter Tryd.func20, Tryd.ntmps20
    go_wp2_with (first | ((with_reducible refine gate_callee (f := 35) rfl ?_); refine goesL_ (some 6) rfl rfl Tryd.func35 (by kernel_rfl) rfl #[.int .i64 a1, .int .i64 1, .int .i64 1000000000000] rfl (by (try simp only [List.map_toArray, List.map_cons, List.map_nil]); first | done | rfl | (simp only [List.length_drop, List.length_take]; rfl)) ?_; (with_reducible refine (impl_InRange.calls a1 1 1000000000000 false _ A3.out).mono ?_); rintro e w' ⟨rfl, ⟨nd, rfl⟩⟩; refine ⟨_, rfl, ?_⟩))
    go_ret
    exact ⟨by first | rfl | (simp; done) | (simp [*]; done), by repeat (first | exact Drawn0.refl _ | apply Drawn0.step)⟩

/-! ### laws_FnIntegers: function 6 -/
mutual
def laws_FnIntegers.j0 : Nat → Int → Int → Int → Int → Bool → Option (Bool)
  | 0, _, _, _, _, _ => none
  | k + 1, x9, x10, x11, x12, x65 => if x65 = true then (some false) else (if x10 < 1 then (laws_FnIntegers.j1 k x9 x10 x11 x12 true) else (laws_FnIntegers.j1 k x9 x10 x11 x12 (decide (x10 > 1000000000000))))
def laws_FnIntegers.j1 : Nat → Int → Int → Int → Int → Bool → Option (Bool)
  | 0, _, _, _, _, _ => none
  | k + 1, x9, x10, x11, x12, x71 => if x71 = true then (if x11 = 0 then (some (x12 == 0)) else (some false)) else (if x12 < 0 then (laws_FnIntegers.j2 k x9 x10 x11 true) else (if x12 ≥ x10 then (laws_FnIntegers.j2 k x9 x10 x11 true) else (if x10 = 0 then (none) else (laws_FnIntegers.j2 k x9 x10 x11 ((Int.tmod (wrap64 ((Int.tmod x9 x10) - x12)) x10) != 0)))))
def laws_FnIntegers.j2 : Nat → Int → Int → Int → Bool → Option (Bool)
  | 0, _, _, _, _ => none
  | k + 1, x9, x10, x11, x94 => if x94 = true then (some false) else (if x9 < 0 then (some (x11 == 0)) else (if x9 > 1000000000000 then (some (x11 == 0)) else (if (wrap64 (x11 * x10)) ≥ x9 then (some (decide ((wrap64 ((wrap64 (x11 * x10)) - x9)) < x10))) else (some false))))
end
def laws_FnIntegers.f (k : Nat) (l0 : List Int) : Option (Bool) := (laws_big.f l0).bind fun t243 => (if t243 = true then (some true) else ((spec_DrawParseInt.f k l0).bind fun t244 => ((impl_ParseInt.f k t244).bind fun bt245 => ((spec_DrawFormatInt.f k l0).bind fun t247 => ((impl_FormatInt.f t247).bind fun t248 => ((impl_ParseInt.f k t248).bind fun bt249 => ((spec_DrawCeilDiv.f k l0).bind fun bt251 => ((impl_CeilDiv.f bt251.1 bt251.2).bind fun t253 => ((impl_Mod.f bt251.1 bt251.2).bind fun t254 => (if bt245.2 = true then ((impl_FormatInt.f bt245.1).bind fun t255 => (if t255.toList = t244.toList then (if t247 ≥ 0 then (if (bt249.2 != (decide (t247 ≤ 1000000000000))) = true then (laws_FnIntegers.j0 k bt251.1 bt251.2 t253 t254 true) else (if bt249.2 = true then (laws_FnIntegers.j0 k bt251.1 bt251.2 t253 t254 (bt249.1 != t247)) else (laws_FnIntegers.j0 k bt251.1 bt251.2 t253 t254 false))) else (if (bt249.2 != false) = true then (laws_FnIntegers.j0 k bt251.1 bt251.2 t253 t254 true) else (if bt249.2 = true then (laws_FnIntegers.j0 k bt251.1 bt251.2 t253 t254 (bt249.1 != t247)) else (laws_FnIntegers.j0 k bt251.1 bt251.2 t253 t254 false)))) else (laws_FnIntegers.j0 k bt251.1 bt251.2 t253 t254 true))) else (if t247 ≥ 0 then (if (bt249.2 != (decide (t247 ≤ 1000000000000))) = true then (laws_FnIntegers.j0 k bt251.1 bt251.2 t253 t254 true) else (if bt249.2 = true then (laws_FnIntegers.j0 k bt251.1 bt251.2 t253 t254 (bt249.1 != t247)) else (laws_FnIntegers.j0 k bt251.1 bt251.2 t253 t254 false))) else (if (bt249.2 != false) = true then (laws_FnIntegers.j0 k bt251.1 bt251.2 t253 t254 true) else (if bt249.2 = true then (laws_FnIntegers.j0 k bt251.1 bt251.2 t253 t254 (bt249.1 != t247)) else (laws_FnIntegers.j0 k bt251.1 bt251.2 t253 t254 false))))))))))))))
theorem laws_FnIntegers.mono_l : ∀ k, (∀ y0 y1 y2 y3 y4, LeO (laws_FnIntegers.j0 k y0 y1 y2 y3 y4) (laws_FnIntegers.j0 (k + 1) y0 y1 y2 y3 y4)) ∧ (∀ y0 y1 y2 y3 y4, LeO (laws_FnIntegers.j1 k y0 y1 y2 y3 y4) (laws_FnIntegers.j1 (k + 1) y0 y1 y2 y3 y4)) ∧ (∀ y0 y1 y2 y3, LeO (laws_FnIntegers.j2 k y0 y1 y2 y3) (laws_FnIntegers.j2 (k + 1) y0 y1 y2 y3))
  | 0 => ⟨fun _ _ _ _ _ r h => by simp [laws_FnIntegers.j0] at h, fun _ _ _ _ _ r h => by simp [laws_FnIntegers.j1] at h, fun _ _ _ _ r h => by simp [laws_FnIntegers.j2] at h⟩
  | k + 1 => by
    obtain ⟨ih0, ih1, ih2⟩ := laws_FnIntegers.mono_l k
    refine ⟨?_, ?_, ?_⟩
    · intro y0 y1 y2 y3 y4
      unfold laws_FnIntegers.j0
      repeat' first
      | (with_reducible exact ih0 _ _ _ _ _)
      | (with_reducible exact ih1 _ _ _ _ _)
      | (with_reducible exact ih2 _ _ _ _)
      | (with_reducible exact impl_ParseInt.mono _ _)
      | (with_reducible exact spec_DrawCeilDiv.mono _ _)
      | (with_reducible exact spec_DrawFormatInt.mono _ _)
      | (with_reducible exact spec_DrawParseInt.mono _ _)
      | (with_reducible exact LeO.refl _)
      | (with_reducible exact LeO.none _)
      | (with_reducible refine LeO.ite ?_ ?_)
      | (with_reducible refine LeO.bind ?_ (fun _ => ?_))
      | exact ih0 _ _ _ _ _
      | exact ih1 _ _ _ _ _
      | exact ih2 _ _ _ _
      | exact impl_ParseInt.mono _ _
      | exact spec_DrawCeilDiv.mono _ _
      | exact spec_DrawFormatInt.mono _ _
      | exact spec_DrawParseInt.mono _ _
      | exact LeO.none _
      | refine LeO.ite ?_ ?_
      | refine LeO.bind ?_ (fun _ => ?_)
    · intro y0 y1 y2 y3 y4
      unfold laws_FnIntegers.j1
      repeat' first
      | (with_reducible exact ih0 _ _ _ _ _)
      | (with_reducible exact ih1 _ _ _ _ _)
      | (with_reducible exact ih2 _ _ _ _)
      | (with_reducible exact impl_ParseInt.mono _ _)
      | (with_reducible exact spec_DrawCeilDiv.mono _ _)
      | (with_reducible exact spec_DrawFormatInt.mono _ _)
      | (with_reducible exact spec_DrawParseInt.mono _ _)
      | (with_reducible exact LeO.refl _)
      | (with_reducible exact LeO.none _)
      | (with_reducible refine LeO.ite ?_ ?_)
      | (with_reducible refine LeO.bind ?_ (fun _ => ?_))
      | exact ih0 _ _ _ _ _
      | exact ih1 _ _ _ _ _
      | exact ih2 _ _ _ _
      | exact impl_ParseInt.mono _ _
      | exact spec_DrawCeilDiv.mono _ _
      | exact spec_DrawFormatInt.mono _ _
      | exact spec_DrawParseInt.mono _ _
      | exact LeO.none _
      | refine LeO.ite ?_ ?_
      | refine LeO.bind ?_ (fun _ => ?_)
    · intro y0 y1 y2 y3
      unfold laws_FnIntegers.j2
      repeat' first
      | (with_reducible exact ih0 _ _ _ _ _)
      | (with_reducible exact ih1 _ _ _ _ _)
      | (with_reducible exact ih2 _ _ _ _)
      | (with_reducible exact impl_ParseInt.mono _ _)
      | (with_reducible exact spec_DrawCeilDiv.mono _ _)
      | (with_reducible exact spec_DrawFormatInt.mono _ _)
      | (with_reducible exact spec_DrawParseInt.mono _ _)
      | (with_reducible exact LeO.refl _)
      | (with_reducible exact LeO.none _)
      | (with_reducible refine LeO.ite ?_ ?_)
      | (with_reducible refine LeO.bind ?_ (fun _ => ?_))
      | exact ih0 _ _ _ _ _
      | exact ih1 _ _ _ _ _
      | exact ih2 _ _ _ _
      | exact impl_ParseInt.mono _ _
      | exact spec_DrawCeilDiv.mono _ _
      | exact spec_DrawFormatInt.mono _ _
      | exact spec_DrawParseInt.mono _ _
      | exact LeO.none _
      | refine LeO.ite ?_ ?_
      | refine LeO.bind ?_ (fun _ => ?_)
theorem laws_FnIntegers.mono : ∀ a0 k, LeO (laws_FnIntegers.f k a0) (laws_FnIntegers.f (k + 1) a0) := by
  intro a0 k
  obtain ⟨ih0, ih1, ih2⟩ := laws_FnIntegers.mono_l k
  unfold laws_FnIntegers.f
  repeat' first
      | (with_reducible exact ih0 _ _ _ _ _)
      | (with_reducible exact ih1 _ _ _ _ _)
      | (with_reducible exact ih2 _ _ _ _)
      | (with_reducible exact impl_ParseInt.mono _ _)
      | (with_reducible exact spec_DrawCeilDiv.mono _ _)
      | (with_reducible exact spec_DrawFormatInt.mono _ _)
      | (with_reducible exact spec_DrawParseInt.mono _ _)
      | (with_reducible exact LeO.refl _)
      | (with_reducible exact LeO.none _)
      | (with_reducible refine LeO.ite ?_ ?_)
      | (with_reducible refine LeO.bind ?_ (fun _ => ?_))
      | exact ih0 _ _ _ _ _
      | exact ih1 _ _ _ _ _
      | exact ih2 _ _ _ _
      | exact impl_ParseInt.mono _ _
      | exact spec_DrawCeilDiv.mono _ _
      | exact spec_DrawFormatInt.mono _ _
      | exact spec_DrawParseInt.mono _ _
      | exact LeO.none _
      | refine LeO.ite ?_ ?_
      | refine LeO.bind ?_ (fun _ => ?_)
set_option maxHeartbeats 8000000 in
set_option maxRecDepth 100000 in
theorem laws_FnIntegers.calls (k : Nat) (A0 : Option Addr) (c0 : Nat) (l0 : List Int) (r : Bool) (w : World) (hr0 : Kd.C (Kd.int .u8) w A0 l0.length l0) (hc0 : l0.length ≤ c0) (h : laws_FnIntegers.f k l0 = some r) (htab : TabOk w) :
    Calls Tryd.prog 6 #[.slice A0 l0.length c0] w fun e w' => e = .returned (.bool r) ∧ Below w.heap.size w w' := by
  have HT := Aside0.mk htab
  clear htab
  have HR0 := Aside0.mk hr0
  have HC0 := Aside0.mk hc0
  clear hr0 hc0
  have HB := Aside0.mk (Below.refl w.heap.size w)
  have H : ((laws_big.f l0).bind fun t243 => (if t243 = true then (some true) else ((spec_DrawParseInt.f k l0).bind fun t244 => ((impl_ParseInt.f k t244).bind fun bt245 => ((spec_DrawFormatInt.f k l0).bind fun t247 => ((impl_FormatInt.f t247).bind fun t248 => ((impl_ParseInt.f k t248).bind fun bt249 => ((spec_DrawCeilDiv.f k l0).bind fun bt251 => ((impl_CeilDiv.f bt251.1 bt251.2).bind fun t253 => ((impl_Mod.f bt251.1 bt251.2).bind fun t254 => (if bt245.2 = true then ((impl_FormatInt.f bt245.1).bind fun t255 => (if t255.toList = t244.toList then (if t247 ≥ 0 then (if (bt249.2 != (decide (t247 ≤ 1000000000000))) = true then (laws_FnIntegers.j0 k bt251.1 bt251.2 t253 t254 true) else (if bt249.2 = true then (laws_FnIntegers.j0 k bt251.1 bt251.2 t253 t254 (bt249.1 != t247)) else (laws_FnIntegers.j0 k bt251.1 bt251.2 t253 t254 false))) else (if (bt249.2 != false) = true then (laws_FnIntegers.j0 k bt251.1 bt251.2 t253 t254 true) else (if bt249.2 = true then (laws_FnIntegers.j0 k bt251.1 bt251.2 t253 t254 (bt249.1 != t247)) else (laws_FnIntegers.j0 k bt251.1 bt251.2 t253 t254 false)))) else (laws_FnIntegers.j0 k bt251.1 bt251.2 t253 t254 true))) else (if t247 ≥ 0 then (if (bt249.2 != (decide (t247 ≤ 1000000000000))) = true then (laws_FnIntegers.j0 k bt251.1 bt251.2 t253 t254 true) else (if bt249.2 = true then (laws_FnIntegers.j0 k bt251.1 bt251.2 t253 t254 (bt249.1 != t247)) else (laws_FnIntegers.j0 k bt251.1 bt251.2 t253 t254 false))) else (if (bt249.2 != false) = true then (laws_FnIntegers.j0 k bt251.1 bt251.2 t253 t254 true) else (if bt249.2 = true then (laws_FnIntegers.j0 k bt251.1 bt251.2 t253 t254 (bt249.1 != t247)) else (laws_FnIntegers.j0 k bt251.1 bt251.2 t253 t254 false))))))))))))))) = some r := h
  clear h
  replace H := Option.bind_eq_some_iff.mp H
  obtain ⟨t243, A20, H⟩ := H
  replace H : (if t243 = true then (some true) else ((spec_DrawParseInt.f k l0).bind fun t244 => ((impl_ParseInt.f k t244).bind fun bt245 => ((spec_DrawFormatInt.f k l0).bind fun t247 => ((impl_FormatInt.f t247).bind fun t248 => ((impl_ParseInt.f k t248).bind fun bt249 => ((spec_DrawCeilDiv.f k l0).bind fun bt251 => ((impl_CeilDiv.f bt251.1 bt251.2).bind fun t253 => ((impl_Mod.f bt251.1 bt251.2).bind fun t254 => (if bt245.2 = true then ((impl_FormatInt.f bt245.1).bind fun t255 => (if t255.toList = t244.toList then (if t247 ≥ 0 then (if (bt249.2 != (decide (t247 ≤ 1000000000000))) = true then (laws_FnIntegers.j0 k bt251.1 bt251.2 t253 t254 true) else (if bt249.2 = true then (laws_FnIntegers.j0 k bt251.1 bt251.2 t253 t254 (bt249.1 != t247)) else (laws_FnIntegers.j0 k bt251.1 bt251.2 t253 t254 false))) else (if (bt249.2 != false) = true then (laws_FnIntegers.j0 k bt251.1 bt251.2 t253 t254 true) else (if bt249.2 = true then (laws_FnIntegers.j0 k bt251.1 bt251.2 t253 t254 (bt249.1 != t247)) else (laws_FnIntegers.j0 k bt251.1 bt251.2 t253 t254 false)))) else (laws_FnIntegers.j0 k bt251.1 bt251.2 t253 t254 true))) else (if t247 ≥ 0 then (if (bt249.2 != (decide (t247 ≤ 1000000000000))) = true then (laws_FnIntegers.j0 k bt251.1 bt251.2 t253 t254 true) else (if bt249.2 = true then (laws_FnIntegers.j0 k bt251.1 bt251.2 t253 t254 (bt249.1 != t247)) else (laws_FnIntegers.j0 k bt251.1 bt251.2 t253 t254 false))) else (if (bt249.2 != false) = true then (laws_FnIntegers.j0 k bt251.1 bt251.2 t253 t254 true) else (if bt249.2 = true then (laws_FnIntegers.j0 k bt251.1 bt251.2 t253 t254 (bt249.1 != t247)) else (laws_FnIntegers.j0 k bt251.1 bt251.2 t253 t254 false)))))))))))))) = some r := H
  have A2 := Aside0.mk A20
  clear A20
  by_cases c3 : t243 = true
  · subst c3
    have H1 : (some true) = some r := by rw [if_pos rfl] at H; exact H
    clear H
    have H := H1
    clear H1
    obtain rfl := Option.some.inj H
    go_enter Tryd.func6, Tryd.ntmps6
    go_wp2_with (first | ((with_reducible refine gate_callee (f := 15) rfl ?_); refine goesL_ (some 14) rfl rfl Tryd.func15 (by kernel_rfl) rfl #[.slice A0 l0.length c0] rfl (by (try simp only [List.map_toArray, List.map_cons, List.map_nil]); first | done | rfl | (simp only [List.length_drop, List.length_take]; rfl)) ?_; (with_reducible refine (laws_big.calls _ _ l0 true _ ?side1 ?side2 A2.out).mono ?_); (case side1 => repeat (first | exact HR0.out | (with_reducible refine Kd.C_alloc ?_ _) | (with_reducible refine Kd.C_drewN ?_ _) | (with_reducible refine Kd.C_drew ?_))); (case side2 => exact HC0.out); rintro e w' ⟨rfl, ⟨nd, rfl⟩⟩; refine ⟨_, rfl, ?_⟩))
    go_ret
    exact ⟨by first | rfl | (simp [errW_none, errW_some] <;> rfl) | (simp [*, errW_none, errW_some] <;> rfl), by repeat (first | (with_reducible first | exact HB.out | apply below_alloc | apply pw_below_drewN | apply below_drew1) | exact HB.out)⟩
  · replace c3 := Bool.eq_false_iff.mpr c3
    subst c3
    have H1 : ((spec_DrawParseInt.f k l0).bind fun t244 => ((impl_ParseInt.f k t244).bind fun bt245 => ((spec_DrawFormatInt.f k l0).bind fun t247 => ((impl_FormatInt.f t247).bind fun t248 => ((impl_ParseInt.f k t248).bind fun bt249 => ((spec_DrawCeilDiv.f k l0).bind fun bt251 => ((impl_CeilDiv.f bt251.1 bt251.2).bind fun t253 => ((impl_Mod.f bt251.1 bt251.2).bind fun t254 => (if bt245.2 = true then ((impl_FormatInt.f bt245.1).bind fun t255 => (if t255.toList = t244.toList then (if t247 ≥ 0 then (if (bt249.2 != (decide (t247 ≤ 1000000000000))) = true then (laws_FnIntegers.j0 k bt251.1 bt251.2 t253 t254 true) else (if bt249.2 = true then (laws_FnIntegers.j0 k bt251.1 bt251.2 t253 t254 (bt249.1 != t247)) else (laws_FnIntegers.j0 k bt251.1 bt251.2 t253 t254 false))) else (if (bt249.2 != false) = true then (laws_FnIntegers.j0 k bt251.1 bt251.2 t253 t254 true) else (if bt249.2 = true then (laws_FnIntegers.j0 k bt251.1 bt251.2 t253 t254 (bt249.1 != t247)) else (laws_FnIntegers.j0 k bt251.1 bt251.2 t253 t254 false)))) else (laws_FnIntegers.j0 k bt251.1 bt251.2 t253 t254 true))) else (if t247 ≥ 0 then (if (bt249.2 != (decide (t247 ≤ 1000000000000))) = true then (laws_FnIntegers.j0 k bt251.1 bt251.2 t253 t254 true) else (if bt249.2 = true then (laws_FnIntegers.j0 k bt251.1 bt251.2 t253 t254 (bt249.1 != t247)) else (laws_FnIntegers.j0 k bt251.1 bt251.2 t253 t254 false))) else (if (bt249.2 != false) = true then (laws_FnIntegers.j0 k bt251.1 bt251.2 t253 t254 true) else (if bt249.2 = true then (laws_FnIntegers.j0 k bt251.1 bt251.2 t253 t254 (bt249.1 != t247)) else (laws_FnIntegers.j0 k bt251.1 bt251.2 t253 t254 false))))))))))))) = some r := by rw [if_neg (show ¬ (false = true) by decide)] at H; exact H
    clear H
    have H := H1
    clear H1
    replace H := Option.bind_eq_some_iff.mp H
    obtain ⟨t244, A40, H⟩ := H
    replace H : ((impl_ParseInt.f k t244).bind fun bt245 => ((spec_DrawFormatInt.f k l0).bind fun t247 => ((impl_FormatInt.f t247).bind fun t248 => ((impl_ParseInt.f k t248).bind fun bt249 => ((spec_DrawCeilDiv.f k l0).bind fun bt251 => ((impl_CeilDiv.f bt251.1 bt251.2).bind fun t253 => ((impl_Mod.f bt251.1 bt251.2).bind fun t254 => (if bt245.2 = true then ((impl_FormatInt.f bt245.1).bind fun t255 => (if t255.toList = t244.toList then (if t247 ≥ 0 then (if (bt249.2 != (decide (t247 ≤ 1000000000000))) = true then (laws_FnIntegers.j0 k bt251.1 bt251.2 t253 t254 true) else (if bt249.2 = true then (laws_FnIntegers.j0 k bt251.1 bt251.2 t253 t254 (bt249.1 != t247)) else (laws_FnIntegers.j0 k bt251.1 bt251.2 t253 t254 false))) else (if (bt249.2 != false) = true then (laws_FnIntegers.j0 k bt251.1 bt251.2 t253 t254 true) else (if bt249.2 = true then (laws_FnIntegers.j0 k bt251.1 bt251.2 t253 t254 (bt249.1 != t247)) else (laws_FnIntegers.j0 k bt251.1 bt251.2 t253 t254 false)))) else (laws_FnIntegers.j0 k bt251.1 bt251.2 t253 t254 true))) else (if t247 ≥ 0 then (if (bt249.2 != (decide (t247 ≤ 1000000000000))) = true then (laws_FnIntegers.j0 k bt251.1 bt251.2 t253 t254 true) else (if bt249.2 = true then (laws_FnIntegers.j0 k bt251.1 bt251.2 t253 t254 (bt249.1 != t247)) else (laws_FnIntegers.j0 k bt251.1 bt251.2 t253 t254 false))) else (if (bt249.2 != false) = true then (laws_FnIntegers.j0 k bt251.1 bt251.2 t253 t254 true) else (if bt249.2 = true then (laws_FnIntegers.j0 k bt251.1 bt251.2 t253 t254 (bt249.1 != t247)) else (laws_FnIntegers.j0 k bt251.1 bt251.2 t253 t254 false)))))))))))) = some r := H
    have A4 := Aside0.mk A40
    clear A40
    replace H := Option.bind_eq_some_iff.mp H
    obtain ⟨⟨t245, t246⟩, A50, H⟩ := H
    replace H : ((spec_DrawFormatInt.f k l0).bind fun t247 => ((impl_FormatInt.f t247).bind fun t248 => ((impl_ParseInt.f k t248).bind fun bt249 => ((spec_DrawCeilDiv.f k l0).bind fun bt251 => ((impl_CeilDiv.f bt251.1 bt251.2).bind fun t253 => ((impl_Mod.f bt251.1 bt251.2).bind fun t254 => (if t246 = true then ((impl_FormatInt.f t245).bind fun t255 => (if t255.toList = t244.toList then (if t247 ≥ 0 then (if (bt249.2 != (decide (t247 ≤ 1000000000000))) = true then (laws_FnIntegers.j0 k bt251.1 bt251.2 t253 t254 true) else (if bt249.2 = true then (laws_FnIntegers.j0 k bt251.1 bt251.2 t253 t254 (bt249.1 != t247)) else (laws_FnIntegers.j0 k bt251.1 bt251.2 t253 t254 false))) else (if (bt249.2 != false) = true then (laws_FnIntegers.j0 k bt251.1 bt251.2 t253 t254 true) else (if bt249.2 = true then (laws_FnIntegers.j0 k bt251.1 bt251.2 t253 t254 (bt249.1 != t247)) else (laws_FnIntegers.j0 k bt251.1 bt251.2 t253 t254 false)))) else (laws_FnIntegers.j0 k bt251.1 bt251.2 t253 t254 true))) else (if t247 ≥ 0 then (if (bt249.2 != (decide (t247 ≤ 1000000000000))) = true then (laws_FnIntegers.j0 k bt251.1 bt251.2 t253 t254 true) else (if bt249.2 = true then (laws_FnIntegers.j0 k bt251.1 bt251.2 t253 t254 (bt249.1 != t247)) else (laws_FnIntegers.j0 k bt251.1 bt251.2 t253 t254 false))) else (if (bt249.2 != false) = true then (laws_FnIntegers.j0 k bt251.1 bt251.2 t253 t254 true) else (if bt249.2 = true then (laws_FnIntegers.j0 k bt251.1 bt251.2 t253 t254 (bt249.1 != t247)) else (laws_FnIntegers.j0 k bt251.1 bt251.2 t253 t254 false))))))))))) = some r := H
    have A5 := Aside0.mk A50
    clear A50
    replace H := Option.bind_eq_some_iff.mp H
    obtain ⟨t247, A60, H⟩ := H
    replace H : ((impl_FormatInt.f t247).bind fun t248 => ((impl_ParseInt.f k t248).bind fun bt249 => ((spec_DrawCeilDiv.f k l0).bind fun bt251 => ((impl_CeilDiv.f bt251.1 bt251.2).bind fun t253 => ((impl_Mod.f bt251.1 bt251.2).bind fun t254 => (if t246 = true then ((impl_FormatInt.f t245).bind fun t255 => (if t255.toList = t244.toList then (if t247 ≥ 0 then (if (bt249.2 != (decide (t247 ≤ 1000000000000))) = true then (laws_FnIntegers.j0 k bt251.1 bt251.2 t253 t254 true) else (if bt249.2 = true then (laws_FnIntegers.j0 k bt251.1 bt251.2 t253 t254 (bt249.1 != t247)) else (laws_FnIntegers.j0 k bt251.1 bt251.2 t253 t254 false))) else (if (bt249.2 != false) = true then (laws_FnIntegers.j0 k bt251.1 bt251.2 t253 t254 true) else (if bt249.2 = true then (laws_FnIntegers.j0 k bt251.1 bt251.2 t253 t254 (bt249.1 != t247)) else (laws_FnIntegers.j0 k bt251.1 bt251.2 t253 t254 false)))) else (laws_FnIntegers.j0 k bt251.1 bt251.2 t253 t254 true))) else (if t247 ≥ 0 then (if (bt249.2 != (decide (t247 ≤ 1000000000000))) = true then (laws_FnIntegers.j0 k bt251.1 bt251.2 t253 t254 true) else (if bt249.2 = true then (laws_FnIntegers.j0 k bt251.1 bt251.2 t253 t254 (bt249.1 != t247)) else (laws_FnIntegers.j0 k bt251.1 bt251.2 t253 t254 false))) else (if (bt249.2 != false) = true then (laws_FnIntegers.j0 k bt251.1 bt251.2 t253 t254 true) else (if bt249.2 = true then (laws_FnIntegers.j0 k bt251.1 bt251.2 t253 t254 (bt249.1 != t247)) else (laws_FnIntegers.j0 k bt251.1 bt251.2 t253 t254 false)))))))))) = some r := H
    have A6 := Aside0.mk A60
    clear A60
    replace H := Option.bind_eq_some_iff.mp H
    obtain ⟨t248, A70, H⟩ := H
    replace H : ((impl_ParseInt.f k t248).bind fun bt249 => ((spec_DrawCeilDiv.f k l0).bind fun bt251 => ((impl_CeilDiv.f bt251.1 bt251.2).bind fun t253 => ((impl_Mod.f bt251.1 bt251.2).bind fun t254 => (if t246 = true then ((impl_FormatInt.f t245).bind fun t255 => (if t255.toList = t244.toList then (if t247 ≥ 0 then (if (bt249.2 != (decide (t247 ≤ 1000000000000))) = true then (laws_FnIntegers.j0 k bt251.1 bt251.2 t253 t254 true) else (if bt249.2 = true then (laws_FnIntegers.j0 k bt251.1 bt251.2 t253 t254 (bt249.1 != t247)) else (laws_FnIntegers.j0 k bt251.1 bt251.2 t253 t254 false))) else (if (bt249.2 != false) = true then (laws_FnIntegers.j0 k bt251.1 bt251.2 t253 t254 true) else (if bt249.2 = true then (laws_FnIntegers.j0 k bt251.1 bt251.2 t253 t254 (bt249.1 != t247)) else (laws_FnIntegers.j0 k bt251.1 bt251.2 t253 t254 false)))) else (laws_FnIntegers.j0 k bt251.1 bt251.2 t253 t254 true))) else (if t247 ≥ 0 then (if (bt249.2 != (decide (t247 ≤ 1000000000000))) = true then (laws_FnIntegers.j0 k bt251.1 bt251.2 t253 t254 true) else (if bt249.2 = true then (laws_FnIntegers.j0 k bt251.1 bt251.2 t253 t254 (bt249.1 != t247)) else (laws_FnIntegers.j0 k bt251.1 bt251.2 t253 t254 false))) else (if (bt249.2 != false) = true then (laws_FnIntegers.j0 k bt251.1 bt251.2 t253 t254 true) else (if bt249.2 = true then (laws_FnIntegers.j0 k bt251.1 bt251.2 t253 t254 (bt249.1 != t247)) else (laws_FnIntegers.j0 k bt251.1 bt251.2 t253 t254 false))))))))) = some r := H
    have A7 := Aside0.mk A70
    clear A70
    replace H := Option.bind_eq_some_iff.mp H
    obtain ⟨⟨t249, t250⟩, A80, H⟩ := H
    replace H : ((spec_DrawCeilDiv.f k l0).bind fun bt251 => ((impl_CeilDiv.f bt251.1 bt251.2).bind fun t253 => ((impl_Mod.f bt251.1 bt251.2).bind fun t254 => (if t246 = true then ((impl_FormatInt.f t245).bind fun t255 => (if t255.toList = t244.toList then (if t247 ≥ 0 then (if (t250 != (decide (t247 ≤ 1000000000000))) = true then (laws_FnIntegers.j0 k bt251.1 bt251.2 t253 t254 true) else (if t250 = true then (laws_FnIntegers.j0 k bt251.1 bt251.2 t253 t254 (t249 != t247)) else (laws_FnIntegers.j0 k bt251.1 bt251.2 t253 t254 false))) else (if (t250 != false) = true then (laws_FnIntegers.j0 k bt251.1 bt251.2 t253 t254 true) else (if t250 = true then (laws_FnIntegers.j0 k bt251.1 bt251.2 t253 t254 (t249 != t247)) else (laws_FnIntegers.j0 k bt251.1 bt251.2 t253 t254 false)))) else (laws_FnIntegers.j0 k bt251.1 bt251.2 t253 t254 true))) else (if t247 ≥ 0 then (if (t250 != (decide (t247 ≤ 1000000000000))) = true then (laws_FnIntegers.j0 k bt251.1 bt251.2 t253 t254 true) else (if t250 = true then (laws_FnIntegers.j0 k bt251.1 bt251.2 t253 t254 (t249 != t247)) else (laws_FnIntegers.j0 k bt251.1 bt251.2 t253 t254 false))) else (if (t250 != false) = true then (laws_FnIntegers.j0 k bt251.1 bt251.2 t253 t254 true) else (if t250 = true then (laws_FnIntegers.j0 k bt251.1 bt251.2 t253 t254 (t249 != t247)) else (laws_FnIntegers.j0 k bt251.1 bt251.2 t253 t254 false)))))))) = some r := H
    have A8 := Aside0.mk A80
    clear A80
    replace H := Option.bind_eq_some_iff.mp H
    obtain ⟨⟨t251, t252⟩, A90, H⟩ := H
    replace H : ((impl_CeilDiv.f t251 t252).bind fun t253 => ((impl_Mod.f t251 t252).bind fun t254 => (if t246 = true then ((impl_FormatInt.f t245).bind fun t255 => (if t255.toList = t244.toList then (if t247 ≥ 0 then (if (t250 != (decide (t247 ≤ 1000000000000))) = true then (laws_FnIntegers.j0 k t251 t252 t253 t254 true) else (if t250 = true then (laws_FnIntegers.j0 k t251 t252 t253 t254 (t249 != t247)) else (laws_FnIntegers.j0 k t251 t252 t253 t254 false))) else (if (t250 != false) = true then (laws_FnIntegers.j0 k t251 t252 t253 t254 true) else (if t250 = true then (laws_FnIntegers.j0 k t251 t252 t253 t254 (t249 != t247)) else (laws_FnIntegers.j0 k t251 t252 t253 t254 false)))) else (laws_FnIntegers.j0 k t251 t252 t253 t254 true))) else (if t247 ≥ 0 then (if (t250 != (decide (t247 ≤ 1000000000000))) = true then (laws_FnIntegers.j0 k t251 t252 t253 t254 true) else (if t250 = true then (laws_FnIntegers.j0 k t251 t252 t253 t254 (t249 != t247)) else (laws_FnIntegers.j0 k t251 t252 t253 t254 false))) else (if (t250 != false) = true then (laws_FnIntegers.j0 k t251 t252 t253 t254 true) else (if t250 = true then (laws_FnIntegers.j0 k t251 t252 t253 t254 (t249 != t247)) else (laws_FnIntegers.j0 k t251 t252 t253 t254 false))))))) = some r := H
    have A9 := Aside0.mk A90
    clear A90
    replace H := Option.bind_eq_some_iff.mp H
    obtain ⟨t253, A100, H⟩ := H
    replace H : ((impl_Mod.f t251 t252).bind fun t254 => (if t246 = true then ((impl_FormatInt.f t245).bind fun t255 => (if t255.toList = t244.toList then (if t247 ≥ 0 then (if (t250 != (decide (t247 ≤ 1000000000000))) = true then (laws_FnIntegers.j0 k t251 t252 t253 t254 true) else (if t250 = true then (laws_FnIntegers.j0 k t251 t252 t253 t254 (t249 != t247)) else (laws_FnIntegers.j0 k t251 t252 t253 t254 false))) else (if (t250 != false) = true then (laws_FnIntegers.j0 k t251 t252 t253 t254 true) else (if t250 = true then (laws_FnIntegers.j0 k t251 t252 t253 t254 (t249 != t247)) else (laws_FnIntegers.j0 k t251 t252 t253 t254 false)))) else (laws_FnIntegers.j0 k t251 t252 t253 t254 true))) else (if t247 ≥ 0 then (if (t250 != (decide (t247 ≤ 1000000000000))) = true then (laws_FnIntegers.j0 k t251 t252 t253 t254 true) else (if t250 = true then (laws_FnIntegers.j0 k t251 t252 t253 t254 (t249 != t247)) else (laws_FnIntegers.j0 k t251 t252 t253 t254 false))) else (if (t250 != false) = true then (laws_FnIntegers.j0 k t251 t252 t253 t254 true) else (if t250 = true then (laws_FnIntegers.j0 k t251 t252 t253 t254 (t249 != t247)) else (laws_FnIntegers.j0 k t251 t252 t253 t254 false)))))) = some r := H
    have A10 := Aside0.mk A100
    clear A100
    replace H := Option.bind_eq_some_iff.mp H
    obtain ⟨t254, A110, H⟩ := H
    replace H : (if t246 = true then ((impl_FormatInt.f t245).bind fun t255 => (if t255.toList = t244.toList then (if t247 ≥ 0 then (if (t250 != (decide (t247 ≤ 1000000000000))) = true then (laws_FnIntegers.j0 k t251 t252 t253 t254 true) else (if t250 = true then (laws_FnIntegers.j0 k t251 t252 t253 t254 (t249 != t247)) else (laws_FnIntegers.j0 k t251 t252 t253 t254 false))) else (if (t250 != false) = true then (laws_FnIntegers.j0 k t251 t252 t253 t254 true) else (if t250 = true then (laws_FnIntegers.j0 k t251 t252 t253 t254 (t249 != t247)) else (laws_FnIntegers.j0 k t251 t252 t253 t254 false)))) else (laws_FnIntegers.j0 k t251 t252 t253 t254 true))) else (if t247 ≥ 0 then (if (t250 != (decide (t247 ≤ 1000000000000))) = true then (laws_FnIntegers.j0 k t251 t252 t253 t254 true) else (if t250 = true then (laws_FnIntegers.j0 k t251 t252 t253 t254 (t249 != t247)) else (laws_FnIntegers.j0 k t251 t252 t253 t254 false))) else (if (t250 != false) = true then (laws_FnIntegers.j0 k t251 t252 t253 t254 true) else (if t250 = true then (laws_FnIntegers.j0 k t251 t252 t253 t254 (t249 != t247)) else (laws_FnIntegers.j0 k t251 t252 t253 t254 false))))) = some r := H
    have A11 := Aside0.mk A110
    clear A110
    have HC12 := Aside0.mk H
    clear H
    go_enter Tryd.func6, Tryd.ntmps6
    go_upto_region 10 with (first | ((with_reducible refine gate_callee (f := 15) rfl ?_); refine goesL_ (some 14) rfl rfl Tryd.func15 (by kernel_rfl) rfl #[.slice A0 l0.length c0] rfl (by (try simp only [List.map_toArray, List.map_cons, List.map_nil]); first | done | rfl | (simp only [List.length_drop, List.length_take]; rfl)) ?_; (with_reducible refine (laws_big.calls _ _ l0 false _ ?side1 ?side2 A2.out).mono ?_); (case side1 => repeat (first | exact HR0.out | (with_reducible refine Kd.C_alloc ?_ _) | (with_reducible refine Kd.C_drewN ?_ _) | (with_reducible refine Kd.C_drew ?_))); (case side2 => exact HC0.out); rintro e w' ⟨rfl, ⟨nd, rfl⟩⟩; refine ⟨_, rfl, ?_⟩) | ((with_reducible refine gate_callee (f := 16) rfl ?_); refine goesL_ (some 16) rfl rfl Tryd.func16 (by kernel_rfl) rfl #[.slice A0 l0.length c0] rfl (by (try simp only [List.map_toArray, List.map_cons, List.map_nil]); first | done | rfl | (simp only [List.length_drop, List.length_take]; rfl)) ?_; (with_reducible refine (spec_DrawParseInt.calls k _ _ l0 t244 _ ?side1 ?side2 A4.out).mono ?_); (case side1 => repeat (first | exact HR0.out | (with_reducible refine Kd.C_alloc ?_ _) | (with_reducible refine Kd.C_drewN ?_ _) | (with_reducible refine Kd.C_drew ?_))); (case side2 => exact HC0.out); rintro e w13 ⟨rfl, hb⟩; refine ⟨_, rfl, ?_⟩; have n0_ := Aside0.mk (below_step (by repeat (first | (with_reducible first | exact HB.out | apply below_alloc | apply pw_below_drewN | apply below_drew1) | exact HB.out)) hb); clear HB; have HB := n0_; clear n0_; (try clear hb); (try clear hb2); (try clear hk); (try clear hi)) | ((with_reducible refine gate_callee (f := 11) rfl ?_); refine goesL_ (some 19) rfl rfl Tryd.func11 (by kernel_rfl) rfl #[.string t244] rfl (by (try simp only [List.map_toArray, List.map_cons, List.map_nil]); first | done | rfl | (simp only [List.length_drop, List.length_take]; rfl)) ?_; (with_reducible refine (impl_ParseInt.calls k t244 t245 t246 _ A5.out ?tabside).mono ?_); (case tabside => exact HT.out.below (by repeat (first | (with_reducible first | exact HB.out | apply below_alloc | apply pw_below_drewN | apply below_drew1) | exact HB.out))); rintro e w14 ⟨rfl, hb⟩; refine ⟨_, rfl, ?_⟩; have n0_ := Aside0.mk (below_step (by repeat (first | (with_reducible first | exact HB.out | apply below_alloc | apply pw_below_drewN | apply below_drew1) | exact HB.out)) hb); clear HB; have HB := n0_; clear n0_; (try clear hb); (try clear hb2); (try clear hk); (try clear hi)) | ((with_reducible refine gate_callee (f := 17) rfl ?_); refine goesL_ (some 23) rfl rfl Tryd.func17 (by kernel_rfl) rfl #[.slice A0 l0.length c0] rfl (by (try simp only [List.map_toArray, List.map_cons, List.map_nil]); first | done | rfl | (simp only [List.length_drop, List.length_take]; rfl)) ?_; (with_reducible refine (spec_DrawFormatInt.calls k _ _ l0 t247 _ ?side1 ?side2 A6.out).mono ?_); (case side1 => repeat (first | exact (Kd.C_below HR0.out HB.out) | (with_reducible refine Kd.C_alloc ?_ _) | (with_reducible refine Kd.C_drewN ?_ _) | (with_reducible refine Kd.C_drew ?_))); (case side2 => exact HC0.out); rintro e w15 ⟨rfl, hb⟩; refine ⟨_, rfl, ?_⟩; have n0_ := Aside0.mk (below_step (by repeat (first | (with_reducible first | exact HB.out | apply below_alloc | apply pw_below_drewN | apply below_drew1) | exact HB.out)) hb); clear HB; have HB := n0_; clear n0_; (try clear hb); (try clear hb2); (try clear hk); (try clear hi)) | ((with_reducible refine gate_callee (f := 9) rfl ?_); refine goesL_ (some 26) rfl rfl Tryd.func9 (by kernel_rfl) rfl #[.int .i64 t247] rfl (by (try simp only [List.map_toArray, List.map_cons, List.map_nil]); first | done | rfl | (simp only [List.length_drop, List.length_take]; rfl)) ?_; (with_reducible refine (impl_FormatInt.calls t247 t248 _ A7.out ?tabside).mono ?_); (case tabside => exact HT.out.below (by repeat (first | (with_reducible first | exact HB.out | apply below_alloc | apply pw_below_drewN | apply below_drew1) | exact HB.out))); rintro e w16 ⟨rfl, hb⟩; refine ⟨_, rfl, ?_⟩; have n0_ := Aside0.mk (below_step (by repeat (first | (with_reducible first | exact HB.out | apply below_alloc | apply pw_below_drewN | apply below_drew1) | exact HB.out)) hb); clear HB; have HB := n0_; clear n0_; (try clear hb); (try clear hb2); (try clear hk); (try clear hi)) | ((with_reducible refine gate_callee (f := 11) rfl ?_); refine goesL_ (some 27) rfl rfl Tryd.func11 (by kernel_rfl) rfl #[.string t248] rfl (by (try simp only [List.map_toArray, List.map_cons, List.map_nil]); first | done | rfl | (simp only [List.length_drop, List.length_take]; rfl)) ?_; (with_reducible refine (impl_ParseInt.calls k t248 t249 t250 _ A8.out ?tabside).mono ?_); (case tabside => exact HT.out.below (by repeat (first | (with_reducible first | exact HB.out | apply below_alloc | apply pw_below_drewN | apply below_drew1) | exact HB.out))); rintro e w17 ⟨rfl, hb⟩; refine ⟨_, rfl, ?_⟩; have n0_ := Aside0.mk (below_step (by repeat (first | (with_reducible first | exact HB.out | apply below_alloc | apply pw_below_drewN | apply below_drew1) | exact HB.out)) hb); clear HB; have HB := n0_; clear n0_; (try clear hb); (try clear hb2); (try clear hk); (try clear hi)) | ((with_reducible refine gate_callee (f := 18) rfl ?_); refine goesL_ (some 32) rfl rfl Tryd.func18 (by kernel_rfl) rfl #[.slice A0 l0.length c0] rfl (by (try simp only [List.map_toArray, List.map_cons, List.map_nil]); first | done | rfl | (simp only [List.length_drop, List.length_take]; rfl)) ?_; (with_reducible refine (spec_DrawCeilDiv.calls k _ _ l0 t251 t252 _ ?side1 ?side2 A9.out).mono ?_); (case side1 => repeat (first | exact (Kd.C_below HR0.out HB.out) | (with_reducible refine Kd.C_alloc ?_ _) | (with_reducible refine Kd.C_drewN ?_ _) | (with_reducible refine Kd.C_drew ?_))); (case side2 => exact HC0.out); rintro e w18 ⟨rfl, hb⟩; refine ⟨_, rfl, ?_⟩; have n0_ := Aside0.mk (below_step (by repeat (first | (with_reducible first | exact HB.out | apply below_alloc | apply pw_below_drewN | apply below_drew1) | exact HB.out)) hb); clear HB; have HB := n0_; clear n0_; (try clear hb); (try clear hb2); (try clear hk); (try clear hi)) | ((with_reducible refine gate_callee (f := 19) rfl ?_); refine goesL_ (some 37) rfl rfl Tryd.func19 (by kernel_rfl) rfl #[.int .i64 t251, .int .i64 t252] rfl (by (try simp only [List.map_toArray, List.map_cons, List.map_nil]); first | done | rfl | (simp only [List.length_drop, List.length_take]; rfl)) ?_; (with_reducible refine (impl_CeilDiv.calls t251 t252 t253 _ A10.out).mono ?_); rintro e w' ⟨rfl, ⟨nd, rfl⟩⟩; refine ⟨_, rfl, ?_⟩) | ((with_reducible refine gate_callee (f := 20) rfl ?_); refine goesL_ (some 40) rfl rfl Tryd.func20 (by kernel_rfl) rfl #[.int .i64 t251, .int .i64 t252] rfl (by (try simp only [List.map_toArray, List.map_cons, List.map_nil]); first | done | rfl | (simp only [List.length_drop, List.length_take]; rfl)) ?_; (with_reducible refine (impl_Mod.calls t251 t252 t254 _ A11.out).mono ?_); rintro e w' ⟨rfl, ⟨nd, rfl⟩⟩; refine ⟨_, rfl, ?_⟩))
    (try simp only [Act.put, List.setIfInBounds_toArray, List.set_cons_zero, List.set_cons_succ])
    go_cut [65] (fun v65 wc => ∃ (kq : Nat) (x65_11 : Bool), v65 = .bool x65_11 ∧ Aside0 (laws_FnIntegers.j0 kq t251 t252 t253 t254 x65_11 = some r) ∧ Aside0 (kq ≤ k) ∧ Aside0 (Below w.heap.size w wc))
    case first =>
      have H := HC12.out
      clear HC12
      by_cases c19 : t246 = true
      · subst c19
        have H1 : ((impl_FormatInt.f t245).bind fun t255 => (if t255.toList = t244.toList then (if t247 ≥ 0 then (if (t250 != (decide (t247 ≤ 1000000000000))) = true then (laws_FnIntegers.j0 k t251 t252 t253 t254 true) else (if t250 = true then (laws_FnIntegers.j0 k t251 t252 t253 t254 (t249 != t247)) else (laws_FnIntegers.j0 k t251 t252 t253 t254 false))) else (if (t250 != false) = true then (laws_FnIntegers.j0 k t251 t252 t253 t254 true) else (if t250 = true then (laws_FnIntegers.j0 k t251 t252 t253 t254 (t249 != t247)) else (laws_FnIntegers.j0 k t251 t252 t253 t254 false)))) else (laws_FnIntegers.j0 k t251 t252 t253 t254 true))) = some r := by rw [if_pos rfl] at H; exact H
        clear H
        have H := H1
        clear H1
        replace H := Option.bind_eq_some_iff.mp H
        obtain ⟨t255, A200, H⟩ := H
        replace H : (if t255.toList = t244.toList then (if t247 ≥ 0 then (if (t250 != (decide (t247 ≤ 1000000000000))) = true then (laws_FnIntegers.j0 k t251 t252 t253 t254 true) else (if t250 = true then (laws_FnIntegers.j0 k t251 t252 t253 t254 (t249 != t247)) else (laws_FnIntegers.j0 k t251 t252 t253 t254 false))) else (if (t250 != false) = true then (laws_FnIntegers.j0 k t251 t252 t253 t254 true) else (if t250 = true then (laws_FnIntegers.j0 k t251 t252 t253 t254 (t249 != t247)) else (laws_FnIntegers.j0 k t251 t252 t253 t254 false)))) else (laws_FnIntegers.j0 k t251 t252 t253 t254 true)) = some r := H
        have A20 := Aside0.mk A200
        clear A200
        by_cases c21 : t255.toList = t244.toList
        · rw [if_pos c21] at H
          have c21b0 : (t255.toList == t244.toList) = true := beq_iff_eq.mpr c21
          have c21b1 : (t255.toList != t244.toList) = false := bne_eq_false_iff_eq.mpr c21
          clear c21
          (first | rw [c21b0] | (simp only [i64_w, i32_w]; rw [c21b0]) | skip)
          by_cases c22 : t247 ≥ 0
          · rw [if_pos c22] at H
            have c22b0 : decide (0 ≤ t247) = true := decide_eq_true c22
            clear c22
            by_cases c23 : (t250 != (decide (t247 ≤ 1000000000000))) = true
            · rw [if_pos c23] at H
              have c23b0 : (t250 != (decide (t247 ≤ 1000000000000))) = true := c23
              (try (have c23b1 : decide (t250 = (decide (t247 ≤ 1000000000000))) = false := by simpa using c23))
              (try (have c23b2 : (t250 == (decide (t247 ≤ 1000000000000))) = false := by simpa using c23))
              (try (have c23b3 : ¬ (t250 = (decide (t247 ≤ 1000000000000))) := by simpa using c23))
              clear c23
              have H' := Aside0.mk H
              clear H
              go_wp2_with (first | (go_at_call 9; (with_reducible refine (impl_FormatInt.calls t245 t255 _ A20.out ?tabside).mono ?_); (case tabside => exact HT.out.below (by repeat (first | (with_reducible first | exact HB.out | apply below_alloc | apply pw_below_drewN | apply below_drew1) | exact HB.out))); rintro e w24 ⟨rfl, hb⟩; have n0_ := Aside0.mk (below_step (by repeat (first | (with_reducible first | exact HB.out | apply below_alloc | apply pw_below_drewN | apply below_drew1) | exact HB.out)) hb); clear HB; have HB := n0_; clear n0_; (try clear hb); (try clear hb2); (try clear hk); (try clear hi)))
              go_meet
              case rel => exact ⟨_, (true), (by first | rfl | (simp; done) | (simp [*]; done)), H', ⟨by first | omega | exact Nat.le_refl _⟩, ⟨by repeat (first | (with_reducible first | exact HB.out | apply below_alloc | apply pw_below_drewN | apply below_drew1) | exact HB.out)⟩⟩
            · rw [if_neg c23] at H
              have c23b0 : (t250 != (decide (t247 ≤ 1000000000000))) = false := by simpa using c23
              (try (have c23b1 : decide (t250 = (decide (t247 ≤ 1000000000000))) = true := by simpa using c23))
              (try (have c23b2 : (t250 == (decide (t247 ≤ 1000000000000))) = true := by simpa using c23))
              clear c23
              by_cases c25 : t250 = true
              · subst c25
                have H1 : (laws_FnIntegers.j0 k t251 t252 t253 t254 (t249 != t247)) = some r := by rw [if_pos rfl] at H; exact H
                clear H
                have H := H1
                clear H1
                have H' := Aside0.mk H
                clear H
                go_wp2_with (first | (go_at_call 9; (with_reducible refine (impl_FormatInt.calls t245 t255 _ A20.out ?tabside).mono ?_); (case tabside => exact HT.out.below (by repeat (first | (with_reducible first | exact HB.out | apply below_alloc | apply pw_below_drewN | apply below_drew1) | exact HB.out))); rintro e w26 ⟨rfl, hb⟩; have n0_ := Aside0.mk (below_step (by repeat (first | (with_reducible first | exact HB.out | apply below_alloc | apply pw_below_drewN | apply below_drew1) | exact HB.out)) hb); clear HB; have HB := n0_; clear n0_; (try clear hb); (try clear hb2); (try clear hk); (try clear hi)))
                go_meet
                case rel => exact ⟨_, ((t249 != t247)), (by first | rfl | (simp; done) | (simp [*]; done)), H', ⟨by first | omega | exact Nat.le_refl _⟩, ⟨by repeat (first | (with_reducible first | exact HB.out | apply below_alloc | apply pw_below_drewN | apply below_drew1) | exact HB.out)⟩⟩
              · replace c25 := Bool.eq_false_iff.mpr c25
                subst c25
                have H1 : (laws_FnIntegers.j0 k t251 t252 t253 t254 false) = some r := by rw [if_neg (show ¬ (false = true) by decide)] at H; exact H
                clear H
                have H := H1
                clear H1
                have H' := Aside0.mk H
                clear H
                go_wp2_with (first | (go_at_call 9; (with_reducible refine (impl_FormatInt.calls t245 t255 _ A20.out ?tabside).mono ?_); (case tabside => exact HT.out.below (by repeat (first | (with_reducible first | exact HB.out | apply below_alloc | apply pw_below_drewN | apply below_drew1) | exact HB.out))); rintro e w27 ⟨rfl, hb⟩; have n0_ := Aside0.mk (below_step (by repeat (first | (with_reducible first | exact HB.out | apply below_alloc | apply pw_below_drewN | apply below_drew1) | exact HB.out)) hb); clear HB; have HB := n0_; clear n0_; (try clear hb); (try clear hb2); (try clear hk); (try clear hi)))
                go_meet
                case rel => exact ⟨_, (false), (by first | rfl | (simp; done) | (simp [*]; done)), H', ⟨by first | omega | exact Nat.le_refl _⟩, ⟨by repeat (first | (with_reducible first | exact HB.out | apply below_alloc | apply pw_below_drewN | apply below_drew1) | exact HB.out)⟩⟩
          · rw [if_neg c22] at H
            have c22b0 : decide (0 ≤ t247) = false := decide_eq_false c22
            clear c22
            by_cases c28 : (t250 != false) = true
            · rw [if_pos c28] at H
              obtain rfl : t250 = true := by simpa using c28
              have c28b0 : (true != false) = true := c28
              (try (have c28b1 : decide (t250 = false) = false := by simpa using c28))
              (try (have c28b2 : (t250 == false) = false := by simpa using c28))
              (try (have c28b3 : ¬ (t250 = false) := by simpa using c28))
              clear c28
              have H' := Aside0.mk H
              clear H
              go_wp2_with (first | (go_at_call 9; (with_reducible refine (impl_FormatInt.calls t245 t255 _ A20.out ?tabside).mono ?_); (case tabside => exact HT.out.below (by repeat (first | (with_reducible first | exact HB.out | apply below_alloc | apply pw_below_drewN | apply below_drew1) | exact HB.out))); rintro e w29 ⟨rfl, hb⟩; have n0_ := Aside0.mk (below_step (by repeat (first | (with_reducible first | exact HB.out | apply below_alloc | apply pw_below_drewN | apply below_drew1) | exact HB.out)) hb); clear HB; have HB := n0_; clear n0_; (try clear hb); (try clear hb2); (try clear hk); (try clear hi)))
              go_meet
              case rel => exact ⟨_, (true), (by first | rfl | (simp; done) | (simp [*]; done)), H', ⟨by first | omega | exact Nat.le_refl _⟩, ⟨by repeat (first | (with_reducible first | exact HB.out | apply below_alloc | apply pw_below_drewN | apply below_drew1) | exact HB.out)⟩⟩
            · rw [if_neg c28] at H
              have c28b0 : (t250 != false) = false := by simpa using c28
              (try (have c28b1 : decide (t250 = false) = true := by simpa using c28))
              (try (have c28b2 : (t250 == false) = true := by simpa using c28))
              clear c28
              by_cases c30 : t250 = true
              · subst c30
                have H1 : (laws_FnIntegers.j0 k t251 t252 t253 t254 (t249 != t247)) = some r := by rw [if_pos rfl] at H; exact H
                clear H
                have H := H1
                clear H1
                have H' := Aside0.mk H
                clear H
                go_wp2_with (first | (go_at_call 9; (with_reducible refine (impl_FormatInt.calls t245 t255 _ A20.out ?tabside).mono ?_); (case tabside => exact HT.out.below (by repeat (first | (with_reducible first | exact HB.out | apply below_alloc | apply pw_below_drewN | apply below_drew1) | exact HB.out))); rintro e w31 ⟨rfl, hb⟩; have n0_ := Aside0.mk (below_step (by repeat (first | (with_reducible first | exact HB.out | apply below_alloc | apply pw_below_drewN | apply below_drew1) | exact HB.out)) hb); clear HB; have HB := n0_; clear n0_; (try clear hb); (try clear hb2); (try clear hk); (try clear hi)))
                go_meet
                case rel => exact ⟨_, ((t249 != t247)), (by first | rfl | (simp; done) | (simp [*]; done)), H', ⟨by first | omega | exact Nat.le_refl _⟩, ⟨by repeat (first | (with_reducible first | exact HB.out | apply below_alloc | apply pw_below_drewN | apply below_drew1) | exact HB.out)⟩⟩
              · replace c30 := Bool.eq_false_iff.mpr c30
                subst c30
                have H1 : (laws_FnIntegers.j0 k t251 t252 t253 t254 false) = some r := by rw [if_neg (show ¬ (false = true) by decide)] at H; exact H
                clear H
                have H := H1
                clear H1
                have H' := Aside0.mk H
                clear H
                go_wp2_with (first | (go_at_call 9; (with_reducible refine (impl_FormatInt.calls t245 t255 _ A20.out ?tabside).mono ?_); (case tabside => exact HT.out.below (by repeat (first | (with_reducible first | exact HB.out | apply below_alloc | apply pw_below_drewN | apply below_drew1) | exact HB.out))); rintro e w32 ⟨rfl, hb⟩; have n0_ := Aside0.mk (below_step (by repeat (first | (with_reducible first | exact HB.out | apply below_alloc | apply pw_below_drewN | apply below_drew1) | exact HB.out)) hb); clear HB; have HB := n0_; clear n0_; (try clear hb); (try clear hb2); (try clear hk); (try clear hi)))
                go_meet
                case rel => exact ⟨_, (false), (by first | rfl | (simp; done) | (simp [*]; done)), H', ⟨by first | omega | exact Nat.le_refl _⟩, ⟨by repeat (first | (with_reducible first | exact HB.out | apply below_alloc | apply pw_below_drewN | apply below_drew1) | exact HB.out)⟩⟩
        · rw [if_neg c21] at H
          have c21b0 : (t255.toList == t244.toList) = false := beq_eq_false_iff_ne.mpr c21
          have c21b1 : (t255.toList != t244.toList) = true := bne_iff_ne.mpr c21
          (first | rw [c21b0] | (simp only [i64_w, i32_w]; rw [c21b0]) | skip)
          have H' := Aside0.mk H
          clear H
          go_wp2_with (first | (go_at_call 9; (with_reducible refine (impl_FormatInt.calls t245 t255 _ A20.out ?tabside).mono ?_); (case tabside => exact HT.out.below (by repeat (first | (with_reducible first | exact HB.out | apply below_alloc | apply pw_below_drewN | apply below_drew1) | exact HB.out))); rintro e w33 ⟨rfl, hb⟩; have n0_ := Aside0.mk (below_step (by repeat (first | (with_reducible first | exact HB.out | apply below_alloc | apply pw_below_drewN | apply below_drew1) | exact HB.out)) hb); clear HB; have HB := n0_; clear n0_; (try clear hb); (try clear hb2); (try clear hk); (try clear hi)))
          go_meet
          case rel => exact ⟨_, (true), (by first | rfl | (simp; done) | (simp [*]; done)), H', ⟨by first | omega | exact Nat.le_refl _⟩, ⟨by repeat (first | (with_reducible first | exact HB.out | apply below_alloc | apply pw_below_drewN | apply below_drew1) | exact HB.out)⟩⟩
      · replace c19 := Bool.eq_false_iff.mpr c19
        subst c19
        have H1 : (if t247 ≥ 0 then (if (t250 != (decide (t247 ≤ 1000000000000))) = true then (laws_FnIntegers.j0 k t251 t252 t253 t254 true) else (if t250 = true then (laws_FnIntegers.j0 k t251 t252 t253 t254 (t249 != t247)) else (laws_FnIntegers.j0 k t251 t252 t253 t254 false))) else (if (t250 != false) = true then (laws_FnIntegers.j0 k t251 t252 t253 t254 true) else (if t250 = true then (laws_FnIntegers.j0 k t251 t252 t253 t254 (t249 != t247)) else (laws_FnIntegers.j0 k t251 t252 t253 t254 false)))) = some r := by rw [if_neg (show ¬ (false = true) by decide)] at H; exact H
        clear H
        have H := H1
        clear H1
        by_cases c34 : t247 ≥ 0
        · rw [if_pos c34] at H
          have c34b0 : decide (0 ≤ t247) = true := decide_eq_true c34
          clear c34
          by_cases c35 : (t250 != (decide (t247 ≤ 1000000000000))) = true
          · rw [if_pos c35] at H
            have c35b0 : (t250 != (decide (t247 ≤ 1000000000000))) = true := c35
            (try (have c35b1 : decide (t250 = (decide (t247 ≤ 1000000000000))) = false := by simpa using c35))
            (try (have c35b2 : (t250 == (decide (t247 ≤ 1000000000000))) = false := by simpa using c35))
            (try (have c35b3 : ¬ (t250 = (decide (t247 ≤ 1000000000000))) := by simpa using c35))
            clear c35
            have H' := Aside0.mk H
            clear H
            go_wp2
            go_meet
            case rel => exact ⟨_, (true), (by first | rfl | (simp; done) | (simp [*]; done)), H', ⟨by first | omega | exact Nat.le_refl _⟩, ⟨by repeat (first | (with_reducible first | exact HB.out | apply below_alloc | apply pw_below_drewN | apply below_drew1) | exact HB.out)⟩⟩
          · rw [if_neg c35] at H
            have c35b0 : (t250 != (decide (t247 ≤ 1000000000000))) = false := by simpa using c35
            (try (have c35b1 : decide (t250 = (decide (t247 ≤ 1000000000000))) = true := by simpa using c35))
            (try (have c35b2 : (t250 == (decide (t247 ≤ 1000000000000))) = true := by simpa using c35))
            clear c35
            by_cases c36 : t250 = true
            · subst c36
              have H1 : (laws_FnIntegers.j0 k t251 t252 t253 t254 (t249 != t247)) = some r := by rw [if_pos rfl] at H; exact H
              clear H
              have H := H1
              clear H1
              have H' := Aside0.mk H
              clear H
              go_wp2
              go_meet
              case rel => exact ⟨_, ((t249 != t247)), (by first | rfl | (simp; done) | (simp [*]; done)), H', ⟨by first | omega | exact Nat.le_refl _⟩, ⟨by repeat (first | (with_reducible first | exact HB.out | apply below_alloc | apply pw_below_drewN | apply below_drew1) | exact HB.out)⟩⟩
            · replace c36 := Bool.eq_false_iff.mpr c36
              subst c36
              have H1 : (laws_FnIntegers.j0 k t251 t252 t253 t254 false) = some r := by rw [if_neg (show ¬ (false = true) by decide)] at H; exact H
              clear H
              have H := H1
              clear H1
              have H' := Aside0.mk H
              clear H
              go_wp2
              go_meet
              case rel => exact ⟨_, (false), (by first | rfl | (simp; done) | (simp [*]; done)), H', ⟨by first | omega | exact Nat.le_refl _⟩, ⟨by repeat (first | (with_reducible first | exact HB.out | apply below_alloc | apply pw_below_drewN | apply below_drew1) | exact HB.out)⟩⟩
        · rw [if_neg c34] at H
          have c34b0 : decide (0 ≤ t247) = false := decide_eq_false c34
          clear c34
          by_cases c37 : (t250 != false) = true
          · rw [if_pos c37] at H
            obtain rfl : t250 = true := by simpa using c37
            have c37b0 : (true != false) = true := c37
            (try (have c37b1 : decide (t250 = false) = false := by simpa using c37))
            (try (have c37b2 : (t250 == false) = false := by simpa using c37))
            (try (have c37b3 : ¬ (t250 = false) := by simpa using c37))
            clear c37
            have H' := Aside0.mk H
            clear H
            go_wp2
            go_meet
            case rel => exact ⟨_, (true), (by first | rfl | (simp; done) | (simp [*]; done)), H', ⟨by first | omega | exact Nat.le_refl _⟩, ⟨by repeat (first | (with_reducible first | exact HB.out | apply below_alloc | apply pw_below_drewN | apply below_drew1) | exact HB.out)⟩⟩
          · rw [if_neg c37] at H
            have c37b0 : (t250 != false) = false := by simpa using c37
            (try (have c37b1 : decide (t250 = false) = true := by simpa using c37))
            (try (have c37b2 : (t250 == false) = true := by simpa using c37))
            clear c37
            by_cases c38 : t250 = true
            · subst c38
              have H1 : (laws_FnIntegers.j0 k t251 t252 t253 t254 (t249 != t247)) = some r := by rw [if_pos rfl] at H; exact H
              clear H
              have H := H1
              clear H1
              have H' := Aside0.mk H
              clear H
              go_wp2
              go_meet
              case rel => exact ⟨_, ((t249 != t247)), (by first | rfl | (simp; done) | (simp [*]; done)), H', ⟨by first | omega | exact Nat.le_refl _⟩, ⟨by repeat (first | (with_reducible first | exact HB.out | apply below_alloc | apply pw_below_drewN | apply below_drew1) | exact HB.out)⟩⟩
            · replace c38 := Bool.eq_false_iff.mpr c38
              subst c38
              have H1 : (laws_FnIntegers.j0 k t251 t252 t253 t254 false) = some r := by rw [if_neg (show ¬ (false = true) by decide)] at H; exact H
              clear H
              have H := H1
              clear H1
              have H' := Aside0.mk H
              clear H
              go_wp2
              go_meet
              case rel => exact ⟨_, (false), (by first | rfl | (simp; done) | (simp [*]; done)), H', ⟨by first | omega | exact Nat.le_refl _⟩, ⟨by repeat (first | (with_reducible first | exact HB.out | apply below_alloc | apply pw_below_drewN | apply below_drew1) | exact HB.out)⟩⟩
    case rest =>
      clear HC12
      try clear c1
      try clear c2
      try clear p2
      try clear c3
      try clear c6
      try clear c9
      try clear c11
      try clear c15
      try clear c16
      try clear c17
      try clear c18
      try clear c19
      try clear c20
      try clear c21
      try clear c21b0
      try clear c21b1
      try clear c22
      try clear c22b0
      try clear c23
      try clear c23b0
      try clear c23b1
      try clear c23b2
      try clear c25
      try clear c28
      try clear c28b0
      try clear c28b1
      try clear c28b2
      try clear c30
      try clear c34
      try clear c34b0
      try clear c35
      try clear c35b0
      try clear c35b1
      try clear c35b2
      try clear c36
      try clear c37
      try clear c37b0
      try clear c37b1
      try clear c37b2
      try clear c38
      obtain ⟨kq, x65_11, rfl, HA, HJ11, HB⟩ := hcut
      cases kq with
      | zero => exact absurd HA.out (by simp [laws_FnIntegers.j0])
      | succ kj11 =>
        have H := HA.out
        clear HA
        simp only [laws_FnIntegers.j0] at H
        by_cases c39 : x65_11 = true
        · subst c39
          have H1 : (some false) = some r := by rw [if_pos rfl] at H; exact H
          clear H
          have H := H1
          clear H1
          obtain rfl := Option.some.inj H
          go_wp2
          go_ret
          exact ⟨by first | rfl | (simp [errW_none, errW_some] <;> rfl) | (simp [*, errW_none, errW_some] <;> rfl), by repeat (first | (with_reducible first | exact HB.out | apply below_alloc | apply pw_below_drewN | apply below_drew1) | exact HB.out)⟩
        · replace c39 := Bool.eq_false_iff.mpr c39
          subst c39
          have H1 : (if t252 < 1 then (laws_FnIntegers.j1 kj11 t251 t252 t253 t254 true) else (laws_FnIntegers.j1 kj11 t251 t252 t253 t254 (decide (t252 > 1000000000000)))) = some r := by rw [if_neg (show ¬ (false = true) by decide)] at H; exact H
          clear H
          have H := H1
          clear H1
          have HC40 := Aside0.mk H
          clear H
          go_upto_region 12 with (fail)
          go_cut [71] (fun v71 wc => ∃ (kq : Nat) (x71_39 : Bool), v71 = .bool x71_39 ∧ Aside0 (laws_FnIntegers.j1 kq t251 t252 t253 t254 x71_39 = some r) ∧ Aside0 (kq ≤ kj11) ∧ Aside0 (Below w.heap.size w wc))
          case first =>
            have H := HC40.out
            clear HC40
            by_cases c41 : t252 < 1
            · rw [if_pos c41] at H
              have c41b0 : decide (t252 < 1) = true := decide_eq_true c41
              clear c41
              (first | rw [c41b0] | (simp only [i64_w, i32_w]; rw [c41b0]) | skip)
              have H' := Aside0.mk H
              clear H
              go_wp2
              go_meet
              case rel => exact ⟨_, (true), (by first | rfl | (simp; done) | (simp [*]; done)), H', ⟨by have := HJ11.out; first | omega | exact Nat.le_refl _⟩, ⟨by repeat (first | (with_reducible first | exact HB.out | apply below_alloc | apply pw_below_drewN | apply below_drew1) | exact HB.out)⟩⟩
            · rw [if_neg c41] at H
              have c41b0 : decide (t252 < 1) = false := decide_eq_false c41
              clear c41
              (first | rw [c41b0] | (simp only [i64_w, i32_w]; rw [c41b0]) | skip)
              have H' := Aside0.mk H
              clear H
              go_wp2
              go_meet
              case rel => exact ⟨_, (decide (t252 > 1000000000000)), (by first | rfl | (simp; done) | (simp [*]; done)), H', ⟨by have := HJ11.out; first | omega | exact Nat.le_refl _⟩, ⟨by repeat (first | (with_reducible first | exact HB.out | apply below_alloc | apply pw_below_drewN | apply below_drew1) | exact HB.out)⟩⟩
          case rest =>
            clear HC40
            try clear c1
            try clear c2
            try clear p2
            try clear c3
            try clear c4
            try clear c6
            try clear c9
            try clear c11
            try clear c15
            try clear c16
            try clear c17
            try clear c18
            try clear c19
            try clear c20
            try clear c21
            try clear c21b0
            try clear c21b1
            try clear c22
            try clear c22b0
            try clear c23
            try clear c23b0
            try clear c23b1
            try clear c23b2
            try clear c25
            try clear c28
            try clear c28b0
            try clear c28b1
            try clear c28b2
            try clear c30
            try clear c34
            try clear c34b0
            try clear c35
            try clear c35b0
            try clear c35b1
            try clear c35b2
            try clear c36
            try clear c37
            try clear c37b0
            try clear c37b1
            try clear c37b2
            try clear c38
            try clear c39
            try clear c41
            try clear c41b0
            try clear p2
            obtain ⟨kq, x71_39, rfl, HA, HJ39, HB⟩ := hcut
            cases kq with
            | zero => exact absurd HA.out (by simp [laws_FnIntegers.j1])
            | succ kj39 =>
              have H := HA.out
              clear HA
              simp only [laws_FnIntegers.j1] at H
              by_cases c42 : x71_39 = true
              · subst c42
                have H1 : (if t253 = 0 then (some (t254 == 0)) else (some false)) = some r := by rw [if_pos rfl] at H; exact H
                clear H
                have H := H1
                clear H1
                by_cases c43 : t253 = 0
                · rw [if_pos c43] at H
                  have c43b0 : (t253 == 0) = true := beq_iff_eq.mpr c43
                  have c43b1 : (t253 != 0) = false := bne_eq_false_iff_eq.mpr c43
                  clear c43
                  obtain rfl := Option.some.inj H
                  go_wp2
                  go_ret
                  exact ⟨by first | rfl | (simp [errW_none, errW_some] <;> rfl) | (simp [*, errW_none, errW_some] <;> rfl), by repeat (first | (with_reducible first | exact HB.out | apply below_alloc | apply pw_below_drewN | apply below_drew1) | exact HB.out)⟩
                · rw [if_neg c43] at H
                  have c43b0 : (t253 == 0) = false := beq_eq_false_iff_ne.mpr c43
                  have c43b1 : (t253 != 0) = true := bne_iff_ne.mpr c43
                  obtain rfl := Option.some.inj H
                  go_wp2
                  go_ret
                  exact ⟨by first | rfl | (simp [errW_none, errW_some] <;> rfl) | (simp [*, errW_none, errW_some] <;> rfl), by repeat (first | (with_reducible first | exact HB.out | apply below_alloc | apply pw_below_drewN | apply below_drew1) | exact HB.out)⟩
              · replace c42 := Bool.eq_false_iff.mpr c42
                subst c42
                have H1 : (if t254 < 0 then (laws_FnIntegers.j2 kj39 t251 t252 t253 true) else (if t254 ≥ t252 then (laws_FnIntegers.j2 kj39 t251 t252 t253 true) else (if t252 = 0 then (none) else (laws_FnIntegers.j2 kj39 t251 t252 t253 ((Int.tmod (wrap64 ((Int.tmod t251 t252) - t254)) t252) != 0))))) = some r := by rw [if_neg (show ¬ (false = true) by decide)] at H; exact H
                clear H
                have H := H1
                clear H1
                have HC44 := Aside0.mk H
                clear H
                go_upto_region 14 with (fail)
                go_cut [94] (fun v94 wc => ∃ (kq : Nat) (x94_43 : Bool), v94 = .bool x94_43 ∧ Aside0 (laws_FnIntegers.j2 kq t251 t252 t253 x94_43 = some r) ∧ Aside0 (kq ≤ kj39) ∧ Aside0 (Below w.heap.size w wc))
                case first =>
                  have H := HC44.out
                  clear HC44
                  by_cases c45 : t254 < 0
                  · rw [if_pos c45] at H
                    have c45b0 : decide (t254 < 0) = true := decide_eq_true c45
                    clear c45
                    (first | rw [c45b0] | (simp only [i64_w, i32_w]; rw [c45b0]) | skip)
                    have H' := Aside0.mk H
                    clear H
                    go_wp2
                    go_meet
                    case rel => exact ⟨_, (true), (by first | rfl | (simp; done) | (simp [*]; done)), H', ⟨by have := HJ11.out; have := HJ39.out; first | omega | exact Nat.le_refl _⟩, ⟨by repeat (first | (with_reducible first | exact HB.out | apply below_alloc | apply pw_below_drewN | apply below_drew1) | exact HB.out)⟩⟩
                  · rw [if_neg c45] at H
                    have c45b0 : decide (t254 < 0) = false := decide_eq_false c45
                    clear c45
                    (first | rw [c45b0] | (simp only [i64_w, i32_w]; rw [c45b0]) | skip)
                    by_cases c46 : t254 ≥ t252
                    · rw [if_pos c46] at H
                      have c46b0 : decide (t252 ≤ t254) = true := decide_eq_true c46
                      clear c46
                      have H' := Aside0.mk H
                      clear H
                      go_wp2
                      go_meet
                      case rel => exact ⟨_, (true), (by first | rfl | (simp; done) | (simp [*]; done)), H', ⟨by have := HJ11.out; have := HJ39.out; first | omega | exact Nat.le_refl _⟩, ⟨by repeat (first | (with_reducible first | exact HB.out | apply below_alloc | apply pw_below_drewN | apply below_drew1) | exact HB.out)⟩⟩
                    · rw [if_neg c46] at H
                      have c46b0 : decide (t252 ≤ t254) = false := decide_eq_false c46
                      clear c46
                      by_cases c47 : t252 = 0
                      · rw [if_pos c47] at H
                        exact absurd H (by simp)
                      · rw [if_neg c47] at H
                        have c47b0 : (t252 == 0) = false := beq_eq_false_iff_ne.mpr c47
                        have c47b1 : (t252 != 0) = true := bne_iff_ne.mpr c47
                        have H' := Aside0.mk H
                        clear H
                        go_wp2
                        go_meet
                        case rel => exact ⟨_, (((Int.tmod (wrap64 ((Int.tmod t251 t252) - t254)) t252) != 0)), (by first | rfl | (simp; done) | (simp [*]; done)), H', ⟨by have := HJ11.out; have := HJ39.out; first | omega | exact Nat.le_refl _⟩, ⟨by repeat (first | (with_reducible first | exact HB.out | apply below_alloc | apply pw_below_drewN | apply below_drew1) | exact HB.out)⟩⟩
                case rest =>
                  clear HC44
                  try clear c1
                  try clear c2
                  try clear p2
                  try clear c3
                  try clear c4
                  try clear c6
                  try clear p6
                  try clear c9
                  try clear c11
                  try clear c15
                  try clear c16
                  try clear c17
                  try clear c18
                  try clear c19
                  try clear c20
                  try clear c21
                  try clear c21b0
                  try clear c21b1
                  try clear c22
                  try clear c22b0
                  try clear c23
                  try clear c23b0
                  try clear c23b1
                  try clear c23b2
                  try clear c25
                  try clear c28
                  try clear c28b0
                  try clear c28b1
                  try clear c28b2
                  try clear c30
                  try clear c34
                  try clear c34b0
                  try clear c35
                  try clear c35b0
                  try clear c35b1
                  try clear c35b2
                  try clear c36
                  try clear c37
                  try clear c37b0
                  try clear c37b1
                  try clear c37b2
                  try clear c38
                  try clear c39
                  try clear c41
                  try clear c41b0
                  try clear c42
                  try clear c43
                  try clear c43b0
                  try clear c43b1
                  try clear c45
                  try clear c45b0
                  try clear c46
                  try clear c46b0
                  try clear c47
                  try clear c47b0
                  try clear c47b1
                  try clear p2
                  obtain ⟨kq, x94_43, rfl, HA, HJ43, HB⟩ := hcut
                  cases kq with
                  | zero => exact absurd HA.out (by simp [laws_FnIntegers.j2])
                  | succ kj43 =>
                    have H := HA.out
                    clear HA
                    simp only [laws_FnIntegers.j2] at H
                    by_cases c48 : x94_43 = true
                    · subst c48
                      have H1 : (some false) = some r := by rw [if_pos rfl] at H; exact H
                      clear H
                      have H := H1
                      clear H1
                      obtain rfl := Option.some.inj H
                      go_wp2
                      go_ret
                      exact ⟨by first | rfl | (simp [errW_none, errW_some] <;> rfl) | (simp [*, errW_none, errW_some] <;> rfl), by repeat (first | (with_reducible first | exact HB.out | apply below_alloc | apply pw_below_drewN | apply below_drew1) | exact HB.out)⟩
                    · replace c48 := Bool.eq_false_iff.mpr c48
                      subst c48
                      have H1 : (if t251 < 0 then (some (t253 == 0)) else (if t251 > 1000000000000 then (some (t253 == 0)) else (if (wrap64 (t253 * t252)) ≥ t251 then (some (decide ((wrap64 ((wrap64 (t253 * t252)) - t251)) < t252))) else (some false)))) = some r := by rw [if_neg (show ¬ (false = true) by decide)] at H; exact H
                      clear H
                      have H := H1
                      clear H1
                      by_cases c49 : t251 < 0
                      · rw [if_pos c49] at H
                        have c49b0 : decide (t251 < 0) = true := decide_eq_true c49
                        clear c49
                        obtain rfl := Option.some.inj H
                        go_wp2
                        go_ret
                        exact ⟨by first | rfl | (simp [errW_none, errW_some] <;> rfl) | (simp [*, errW_none, errW_some] <;> rfl), by repeat (first | (with_reducible first | exact HB.out | apply below_alloc | apply pw_below_drewN | apply below_drew1) | exact HB.out)⟩
                      · rw [if_neg c49] at H
                        have c49b0 : decide (t251 < 0) = false := decide_eq_false c49
                        clear c49
                        by_cases c50 : t251 > 1000000000000
                        · rw [if_pos c50] at H
                          have c50b0 : decide (1000000000000 < t251) = true := decide_eq_true c50
                          clear c50
                          obtain rfl := Option.some.inj H
                          go_wp2
                          go_ret
                          exact ⟨by first | rfl | (simp [errW_none, errW_some] <;> rfl) | (simp [*, errW_none, errW_some] <;> rfl), by repeat (first | (with_reducible first | exact HB.out | apply below_alloc | apply pw_below_drewN | apply below_drew1) | exact HB.out)⟩
                        · rw [if_neg c50] at H
                          have c50b0 : decide (1000000000000 < t251) = false := decide_eq_false c50
                          clear c50
                          by_cases c51 : (wrap64 (t253 * t252)) ≥ t251
                          · rw [if_pos c51] at H
                            have c51b0 : decide (t251 ≤ (wrap64 (t253 * t252))) = true := decide_eq_true c51
                            clear c51
                            obtain rfl := Option.some.inj H
                            go_wp2
                            go_ret
                            exact ⟨by first | rfl | (simp [errW_none, errW_some] <;> rfl) | (simp [*, errW_none, errW_some] <;> rfl), by repeat (first | (with_reducible first | exact HB.out | apply below_alloc | apply pw_below_drewN | apply below_drew1) | exact HB.out)⟩
                          · rw [if_neg c51] at H
                            have c51b0 : decide (t251 ≤ (wrap64 (t253 * t252))) = false := decide_eq_false c51
                            clear c51
                            obtain rfl := Option.some.inj H
                            go_wp2
                            go_ret
                            exact ⟨by first | rfl | (simp [errW_none, errW_some] <;> rfl) | (simp [*, errW_none, errW_some] <;> rfl), by repeat (first | (with_reducible first | exact HB.out | apply below_alloc | apply pw_below_drewN | apply below_drew1) | exact HB.out)⟩

/-- THE ONE PURE STATEMENT of laws_FnIntegers: yours. -/
def laws_FnIntegers.Pure : Prop := ∀ (l0 : List Int), l0.length ≤ maxLen → l0.length * 1 ≤ 140737488351232 → (∀ x ∈ l0, (Lit.int .u8 x).wf = true) → ∃ k, laws_FnIntegers.f k l0 = some true
theorem laws_FnIntegers.walk (P : laws_FnIntegers.Pure) (a0 : Option Addr) (len0 cap0 : Nat) (z0 : List Int) (w : World) (htab : TabOk w) (w0 : (a0 = none ∧ len0 = 0 ∧ cap0 = 0 ∧ z0 = []) ∨ ∃ x, a0 = some x ∧ len0 ≤ cap0 ∧ cap0 ≤ maxLen ∧ z0.length = cap0 ∧ (∀ i, i < z0.length → w.cell? (x.add i) = some (.int .u8 (z0.getD i 0))) ∧ ∀ n ∈ z0, (Lit.int .u8 n).wf = true) (y0 : len0 * 1 ≤ 140737488351232) :
    Calls Tryd.prog 6 #[.slice a0 len0 cap0] w fun e w' => e = .returned (.bool true) ∧ Below w.heap.size w w' := by
  obtain ⟨l0, rfl, hr0, hm0, hw0, hc0⟩ := ReadsInt.ofRowC w0
  obtain ⟨k, h⟩ := P l0 hm0 y0 hw0
  refine (laws_FnIntegers.calls k _ _ l0 true w (Kd.C_of_reads (d := (0 : Int)) (h1 := fun _ => rfl) hr0) hc0 h htab).mono ?_
  rintro e w' ⟨rfl, hd⟩
  exact ⟨rfl, hd⟩

end Go.Proofs.YticigcjojpdapaaDoor.PFnIntegers
