/- Functions that the law FnRatios reaches, walked: each Go function comes to the answers of the Lean function beside it. Conditions: none of its own. Written by programs. -/
import Derived.Test.YtneiadniopmcnaaPFnRatiosx0
import Derived.Test.YtneiadniopmcnaaPFnRatiosx1
import Derived.Test.YtneiadniopmcnaaPFnRatiosx2
import Derived.Test.YtneiadniopmcnaaPFnRatiosx3
import Derived.Test.YtneiadniopmcnaaPFnRatiosx4
import Derived.Test.YtneiadniopmcnaaPFnRatiosx5
namespace Go.Proofs.Ytneiadniopmcnaa.PFnRatios
open Go.RowKit Go.Proofs.YtneiadniopmcnaaW.PrintWords Go.Proofs.YtneiadniopmcnaaW.PrintLast Go.Proofs.YtneiadniopmcnaaW.PrintMore
attribute [local go_sem] max2_int min2_int max_two min_two max_three min_three max_four min_four   -- for this text's walks alone
set_option linter.unusedVariables false
set_option linter.unusedSimpArgs false

attribute [local go_sem high] eqA24
/-! ### laws_FnRatios: function 14 -/
mutual
def laws_FnRatios.j0 : Nat → List Int → Bool → Int → Int → Int → Int → Option (Bool)
 | 0, _, _, _, _, _, _ => none
 | k + 1, x0, x97, x285000, x285001, x286000, x286001 => if x97 = true then (some false) else ((laws_minus.f k x285000 x285001 x286000 x286001).bind fun bt309 => (if bt309.2.2 = true then ((impl_IsRatio.f k x285000 x285001).bind fun t313 => (if t313 = true then ((impl_IsRatio.f k x286000 x286001).bind fun t314 => (laws_FnRatios.j1 k x0 t314 x285000 x285001 x286000 x286001 bt309.1 bt309.2.1)) else (laws_FnRatios.j1 k x0 false x285000 x285001 x286000 x286001 bt309.1 bt309.2.1))) else (laws_FnRatios.j1 k x0 false x285000 x285001 x286000 x286001 bt309.1 bt309.2.1)))
def laws_FnRatios.j1 : Nat → List Int → Bool → Int → Int → Int → Int → Int → Int → Option (Bool)
 | 0, _, _, _, _, _, _, _, _ => none
 | k + 1, x0, x112, x285000, x285001, x286000, x286001, x313000, x313001 => if x112 = true then ((impl_CompareRatios.f k x285000 x285001 x286000 x286001).bind fun t315 => (if ((decide (x313000 > 0)) != (decide (t315 > 0))) = true then (laws_FnRatios.j2 k x0 true x285000 x285001 x286000 x286001 x313000 x313001) else (laws_FnRatios.j2 k x0 ((decide (x313000 < 0)) != (decide (t315 < 0))) x285000 x285001 x286000 x286001 x313000 x313001))) else (laws_FnRatios.j3 k x0 x285000 x285001 x286000 x286001)
def laws_FnRatios.j3 : Nat → List Int → Int → Int → Int → Int → Option (Bool)
 | 0, _, _, _, _, _ => none
 | k + 1, x0, x285000, x285001, x286000, x286001 => (spec_DrawMakeRatio.f k x0).bind fun bt320 => ((impl_MakeRatio.f k bt320.1 bt320.2).bind fun bt322 => (if bt322.2.2 = true then ((impl_IsRatio.f k bt322.1 bt322.2.1).bind fun t326 => (if t326 = true then (if (wrap64 (bt322.1 * bt320.2)) = (wrap64 (bt320.1 * bt322.2.1)) then ((impl_CompareRatios.f k x285000 x285001 x286000 x286001).bind fun t327 => ((impl_CompareRatios.f k x286000 x286001 x285000 x285001).bind fun t328 => (some (t327 == (wrap64 (-t328)))))) else (some false)) else (some false))) else ((impl_CompareRatios.f k x285000 x285001 x286000 x286001).bind fun t329 => ((impl_CompareRatios.f k x286000 x286001 x285000 x285001).bind fun t330 => (some (t329 == (wrap64 (-t330))))))))
def laws_FnRatios.j2 : Nat → List Int → Bool → Int → Int → Int → Int → Int → Int → Option (Bool)
 | 0, _, _, _, _, _, _, _, _ => none
 | k + 1, x0, x129, x285000, x285001, x286000, x286001, x313000, x313001 => if x129 = true then (some false) else ((impl_AddRatios.f k x313000 x313001 x286000 x286001).bind fun bt316 => (if bt316.2.2 = true then (if (!(bt316.1 == x285000) || (!(bt316.2.1 == x285001))) = true then (some false) else (laws_FnRatios.j3 k x0 x285000 x285001 x286000 x286001)) else (some false)))
end
def laws_FnRatios.f (k : Nat) (l0 : List Int) : Option (Bool) := (laws_big.f l0).bind fun t279 => (if t279 = true then (some true) else ((spec_DrawAddRatios.f k l0).bind fun bt280 => ((impl_AddRatios.f k bt280.1 bt280.2.1 bt280.2.2.1 bt280.2.2.2).bind fun bt286 => ((spec_AddRatios.f k bt280.1 bt280.2.1 bt280.2.2.1 bt280.2.2.2).bind fun bt290 => (if (bt286.2.2 != bt290.2.2) = true then (some false) else ((impl_AddRatios.f k bt280.2.2.1 bt280.2.2.2 bt280.1 bt280.2.1).bind fun bt294 => ((impl_TimesRatios.f k bt280.1 bt280.2.1 bt280.2.2.1 bt280.2.2.2).bind fun bt298 => ((impl_TimesRatios.f k bt280.2.2.1 bt280.2.2.2 bt280.1 bt280.2.1).bind fun bt302 => (if (bt286.2.2 != bt294.2.2) = true then (laws_FnRatios.j0 k l0 true bt280.1 bt280.2.1 bt280.2.2.1 bt280.2.2.2) else (if (!(bt286.1 == bt294.1) || (!(bt286.2.1 == bt294.2.1))) = true then (laws_FnRatios.j0 k l0 true bt280.1 bt280.2.1 bt280.2.2.1 bt280.2.2.2) else (if (bt298.2.2 != bt302.2.2) = true then (laws_FnRatios.j0 k l0 true bt280.1 bt280.2.1 bt280.2.2.1 bt280.2.2.2) else (if (!(bt298.1 == bt302.1) || (!(bt298.2.1 == bt302.2.1))) = true then (laws_FnRatios.j0 k l0 true bt280.1 bt280.2.1 bt280.2.2.1 bt280.2.2.2) else (if bt286.2.2 = true then ((impl_IsRatio.f k bt286.1 bt286.2.1).bind fun t306 => (if t306 = true then (if bt298.2.2 = true then ((impl_IsRatio.f k bt298.1 bt298.2.1).bind fun t307 => (laws_FnRatios.j0 k l0 (!t307) bt280.1 bt280.2.1 bt280.2.2.1 bt280.2.2.2)) else (laws_FnRatios.j0 k l0 false bt280.1 bt280.2.1 bt280.2.2.1 bt280.2.2.2)) else (laws_FnRatios.j0 k l0 true bt280.1 bt280.2.1 bt280.2.2.1 bt280.2.2.2))) else (if bt298.2.2 = true then ((impl_IsRatio.f k bt298.1 bt298.2.1).bind fun t308 => (laws_FnRatios.j0 k l0 (!t308) bt280.1 bt280.2.1 bt280.2.2.1 bt280.2.2.2)) else (laws_FnRatios.j0 k l0 false bt280.1 bt280.2.1 bt280.2.2.1 bt280.2.2.2)))))))))))))))
theorem laws_FnRatios.mono_l : ∀ k, (∀ y0 y1 y2 y3 y4 y5, LeO (laws_FnRatios.j0 k y0 y1 y2 y3 y4 y5) (laws_FnRatios.j0 (k + 1) y0 y1 y2 y3 y4 y5)) ∧ (∀ y0 y1 y2 y3 y4 y5 y6 y7, LeO (laws_FnRatios.j1 k y0 y1 y2 y3 y4 y5 y6 y7) (laws_FnRatios.j1 (k + 1) y0 y1 y2 y3 y4 y5 y6 y7)) ∧ (∀ y0 y1 y2 y3 y4, LeO (laws_FnRatios.j3 k y0 y1 y2 y3 y4) (laws_FnRatios.j3 (k + 1) y0 y1 y2 y3 y4)) ∧ (∀ y0 y1 y2 y3 y4 y5 y6 y7, LeO (laws_FnRatios.j2 k y0 y1 y2 y3 y4 y5 y6 y7) (laws_FnRatios.j2 (k + 1) y0 y1 y2 y3 y4 y5 y6 y7))
 | 0 => ⟨fun _ _ _ _ _ _ r h => by simp [laws_FnRatios.j0] at h, fun _ _ _ _ _ _ _ _ r h => by simp [laws_FnRatios.j1] at h, fun _ _ _ _ _ r h => by simp [laws_FnRatios.j3] at h, fun _ _ _ _ _ _ _ _ r h => by simp [laws_FnRatios.j2] at h⟩
 | k + 1 => by
  obtain ⟨ih0, ih1, ih2, ih3⟩ := laws_FnRatios.mono_l k
  refine ⟨?_, ?_, ?_, ?_⟩
  ·intro y0 y1 y2 y3 y4 y5
   unfold laws_FnRatios.j0
   repeat' first
   | (with_reducible exact ih0 _ _ _ _ _ _)
   | (with_reducible exact ih1 _ _ _ _ _ _ _ _)
   | (with_reducible exact ih2 _ _ _ _ _)
   | (with_reducible exact ih3 _ _ _ _ _ _ _ _)
   | (with_reducible exact impl_AddRatios.mono _ _ _ _ _)
   | (with_reducible exact impl_CompareRatios.mono _ _ _ _ _)
   | (with_reducible exact impl_IsRatio.mono _ _ _)
   | (with_reducible exact impl_MakeRatio.mono _ _ _)
   | (with_reducible exact impl_TimesRatios.mono _ _ _ _ _)
   | (with_reducible exact laws_minus.mono _ _ _ _ _)
   | (with_reducible exact spec_AddRatios.mono _ _ _ _ _)
   | (with_reducible exact spec_DrawAddRatios.mono _ _)
   | (with_reducible exact spec_DrawMakeRatio.mono _ _)
   | (with_reducible exact LeO.refl _)
   | (with_reducible exact LeO.none _)
   | (with_reducible refine LeO.ite ?_ ?_)
   | (with_reducible refine LeO.bind ?_ (fun _ => ?_))
   | exact ih0 _ _ _ _ _ _
   | exact ih1 _ _ _ _ _ _ _ _
   | exact ih2 _ _ _ _ _
   | exact ih3 _ _ _ _ _ _ _ _
   | exact impl_AddRatios.mono _ _ _ _ _
   | exact impl_CompareRatios.mono _ _ _ _ _
   | exact impl_IsRatio.mono _ _ _
   | exact impl_MakeRatio.mono _ _ _
   | exact impl_TimesRatios.mono _ _ _ _ _
   | exact laws_minus.mono _ _ _ _ _
   | exact spec_AddRatios.mono _ _ _ _ _
   | exact spec_DrawAddRatios.mono _ _
   | exact spec_DrawMakeRatio.mono _ _
   | exact LeO.none _
   | refine LeO.ite ?_ ?_
   | refine LeO.bind ?_ (fun _ => ?_)
  ·intro y0 y1 y2 y3 y4 y5 y6 y7
   unfold laws_FnRatios.j1
   repeat' first
   | (with_reducible exact ih0 _ _ _ _ _ _)
   | (with_reducible exact ih1 _ _ _ _ _ _ _ _)
   | (with_reducible exact ih2 _ _ _ _ _)
   | (with_reducible exact ih3 _ _ _ _ _ _ _ _)
   | (with_reducible exact impl_AddRatios.mono _ _ _ _ _)
   | (with_reducible exact impl_CompareRatios.mono _ _ _ _ _)
   | (with_reducible exact impl_IsRatio.mono _ _ _)
   | (with_reducible exact impl_MakeRatio.mono _ _ _)
   | (with_reducible exact impl_TimesRatios.mono _ _ _ _ _)
   | (with_reducible exact laws_minus.mono _ _ _ _ _)
   | (with_reducible exact spec_AddRatios.mono _ _ _ _ _)
   | (with_reducible exact spec_DrawAddRatios.mono _ _)
   | (with_reducible exact spec_DrawMakeRatio.mono _ _)
   | (with_reducible exact LeO.refl _)
   | (with_reducible exact LeO.none _)
   | (with_reducible refine LeO.ite ?_ ?_)
   | (with_reducible refine LeO.bind ?_ (fun _ => ?_))
   | exact ih0 _ _ _ _ _ _
   | exact ih1 _ _ _ _ _ _ _ _
   | exact ih2 _ _ _ _ _
   | exact ih3 _ _ _ _ _ _ _ _
   | exact impl_AddRatios.mono _ _ _ _ _
   | exact impl_CompareRatios.mono _ _ _ _ _
   | exact impl_IsRatio.mono _ _ _
   | exact impl_MakeRatio.mono _ _ _
   | exact impl_TimesRatios.mono _ _ _ _ _
   | exact laws_minus.mono _ _ _ _ _
   | exact spec_AddRatios.mono _ _ _ _ _
   | exact spec_DrawAddRatios.mono _ _
   | exact spec_DrawMakeRatio.mono _ _
   | exact LeO.none _
   | refine LeO.ite ?_ ?_
   | refine LeO.bind ?_ (fun _ => ?_)
  ·intro y0 y1 y2 y3 y4
   unfold laws_FnRatios.j3
   repeat' first
   | (with_reducible exact ih0 _ _ _ _ _ _)
   | (with_reducible exact ih1 _ _ _ _ _ _ _ _)
   | (with_reducible exact ih2 _ _ _ _ _)
   | (with_reducible exact ih3 _ _ _ _ _ _ _ _)
   | (with_reducible exact impl_AddRatios.mono _ _ _ _ _)
   | (with_reducible exact impl_CompareRatios.mono _ _ _ _ _)
   | (with_reducible exact impl_IsRatio.mono _ _ _)
   | (with_reducible exact impl_MakeRatio.mono _ _ _)
   | (with_reducible exact impl_TimesRatios.mono _ _ _ _ _)
   | (with_reducible exact laws_minus.mono _ _ _ _ _)
   | (with_reducible exact spec_AddRatios.mono _ _ _ _ _)
   | (with_reducible exact spec_DrawAddRatios.mono _ _)
   | (with_reducible exact spec_DrawMakeRatio.mono _ _)
   | (with_reducible exact LeO.refl _)
   | (with_reducible exact LeO.none _)
   | (with_reducible refine LeO.ite ?_ ?_)
   | (with_reducible refine LeO.bind ?_ (fun _ => ?_))
   | exact ih0 _ _ _ _ _ _
   | exact ih1 _ _ _ _ _ _ _ _
   | exact ih2 _ _ _ _ _
   | exact ih3 _ _ _ _ _ _ _ _
   | exact impl_AddRatios.mono _ _ _ _ _
   | exact impl_CompareRatios.mono _ _ _ _ _
   | exact impl_IsRatio.mono _ _ _
   | exact impl_MakeRatio.mono _ _ _
   | exact impl_TimesRatios.mono _ _ _ _ _
   | exact laws_minus.mono _ _ _ _ _
   | exact spec_AddRatios.mono _ _ _ _ _
   | exact spec_DrawAddRatios.mono _ _
   | exact spec_DrawMakeRatio.mono _ _
   | exact LeO.none _
   | refine LeO.ite ?_ ?_
   | refine LeO.bind ?_ (fun _ => ?_)
  ·intro y0 y1 y2 y3 y4 y5 y6 y7
   unfold laws_FnRatios.j2
   repeat' first
   | (with_reducible exact ih0 _ _ _ _ _ _)
   | (with_reducible exact ih1 _ _ _ _ _ _ _ _)
   | (with_reducible exact ih2 _ _ _ _ _)
   | (with_reducible exact ih3 _ _ _ _ _ _ _ _)
   | (with_reducible exact impl_AddRatios.mono _ _ _ _ _)
   | (with_reducible exact impl_CompareRatios.mono _ _ _ _ _)
   | (with_reducible exact impl_IsRatio.mono _ _ _)
   | (with_reducible exact impl_MakeRatio.mono _ _ _)
   | (with_reducible exact impl_TimesRatios.mono _ _ _ _ _)
   | (with_reducible exact laws_minus.mono _ _ _ _ _)
   | (with_reducible exact spec_AddRatios.mono _ _ _ _ _)
   | (with_reducible exact spec_DrawAddRatios.mono _ _)
   | (with_reducible exact spec_DrawMakeRatio.mono _ _)
   | (with_reducible exact LeO.refl _)
   | (with_reducible exact LeO.none _)
   | (with_reducible refine LeO.ite ?_ ?_)
   | (with_reducible refine LeO.bind ?_ (fun _ => ?_))
   | exact ih0 _ _ _ _ _ _
   | exact ih1 _ _ _ _ _ _ _ _
   | exact ih2 _ _ _ _ _
   | exact ih3 _ _ _ _ _ _ _ _
   | exact impl_AddRatios.mono _ _ _ _ _
   | exact impl_CompareRatios.mono _ _ _ _ _
   | exact impl_IsRatio.mono _ _ _
   | exact impl_MakeRatio.mono _ _ _
   | exact impl_TimesRatios.mono _ _ _ _ _
   | exact laws_minus.mono _ _ _ _ _
   | exact spec_AddRatios.mono _ _ _ _ _
   | exact spec_DrawAddRatios.mono _ _
   | exact spec_DrawMakeRatio.mono _ _
   | exact LeO.none _
   | refine LeO.ite ?_ ?_
   | refine LeO.bind ?_ (fun _ => ?_)
theorem laws_FnRatios.mono : ∀ a0 k, LeO (laws_FnRatios.f k a0) (laws_FnRatios.f (k + 1) a0) := by
 intro a0 k
 obtain ⟨ih0, ih1, ih2, ih3⟩ := laws_FnRatios.mono_l k
 unfold laws_FnRatios.f
 repeat' first
   | (with_reducible exact ih0 _ _ _ _ _ _)
   | (with_reducible exact ih1 _ _ _ _ _ _ _ _)
   | (with_reducible exact ih2 _ _ _ _ _)
   | (with_reducible exact ih3 _ _ _ _ _ _ _ _)
   | (with_reducible exact impl_AddRatios.mono _ _ _ _ _)
   | (with_reducible exact impl_CompareRatios.mono _ _ _ _ _)
   | (with_reducible exact impl_IsRatio.mono _ _ _)
   | (with_reducible exact impl_MakeRatio.mono _ _ _)
   | (with_reducible exact impl_TimesRatios.mono _ _ _ _ _)
   | (with_reducible exact laws_minus.mono _ _ _ _ _)
   | (with_reducible exact spec_AddRatios.mono _ _ _ _ _)
   | (with_reducible exact spec_DrawAddRatios.mono _ _)
   | (with_reducible exact spec_DrawMakeRatio.mono _ _)
   | (with_reducible exact LeO.refl _)
   | (with_reducible exact LeO.none _)
   | (with_reducible refine LeO.ite ?_ ?_)
   | (with_reducible refine LeO.bind ?_ (fun _ => ?_))
   | exact ih0 _ _ _ _ _ _
   | exact ih1 _ _ _ _ _ _ _ _
   | exact ih2 _ _ _ _ _
   | exact ih3 _ _ _ _ _ _ _ _
   | exact impl_AddRatios.mono _ _ _ _ _
   | exact impl_CompareRatios.mono _ _ _ _ _
   | exact impl_IsRatio.mono _ _ _
   | exact impl_MakeRatio.mono _ _ _
   | exact impl_TimesRatios.mono _ _ _ _ _
   | exact laws_minus.mono _ _ _ _ _
   | exact spec_AddRatios.mono _ _ _ _ _
   | exact spec_DrawAddRatios.mono _ _
   | exact spec_DrawMakeRatio.mono _ _
   | exact LeO.none _
   | refine LeO.ite ?_ ?_
   | refine LeO.bind ?_ (fun _ => ?_)
def laws_FnRatios.T23 : Bool × List (List Nat × List Nat) := (true, [([], []), ([0], [0]), ([1], [1]), ([2], [2]), ([3, 2, 2], [2, 3]), ([4, 4, 2], [2, 4]), ([5], [5]), ([6, 5], [5, 6]), ([5], [5]), ([7, 8, 5], [5, 7, 8]), ([5], [5]), ([5], [5]), ([11, 5], [5, 11]), ([10, 12, 5], [5, 10, 12]), ([9, 13, 5], [5, 9, 13]), ([5, 14, 2], [2, 5, 14]), ([2, 15], [2, 15]), ([16, 5], [16]), ([17], [17]), ([17], [17]), ([18, 19, 17, 17], [17, 18, 19]), ([17], [17]), ([17], [17]), ([21, 22, 20, 17], [17, 21, 22]), ([23, 17], [17, 23]), ([20, 24, 17], [17, 20, 24]), ([17, 25], [17, 25]), ([26, 23, 0, 1, 2, 3, 4, 5, 6, 7, 8, 9, 10, 11, 12, 13, 14, 15, 16, 17, 18, 19, 20, 21, 22, 23, 24, 25, 26], [26])])
def laws_FnRatios.B23 : List Nat := [0, 1, 3, 7, 15, 31, 63, 127, 63, 511, 63, 63, 2111, 7231, 16383, 32767, 65535, 131071, 262143, 262143, 1048575, 262143, 262143, 8388607, 16777215, 33554431, 67108863, 134217727]
theorem laws_FnRatios.tab23 : rtab .any (opsOf Try.f14 23) = laws_FnRatios.T23 := by kernel_rfl
theorem laws_FnRatios.bits23 : waitsOk laws_FnRatios.T23.2 laws_FnRatios.B23 = true := by kernel_rfl
def laws_FnRatios.Pure : Prop := ∀ (l0 : List Int), l0.length ≤ maxLen → l0.length * 1 ≤ 140737488351232 → (∀ x ∈ l0, (Lit.int .u8 x).wf = true) → ∃ k, laws_FnRatios.f k l0 = some true
end Go.Proofs.Ytneiadniopmcnaa.PFnRatios
