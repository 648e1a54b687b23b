/- Functions that the law FnRatios reaches, walked: each Go function comes to the answers of the Lean function beside it. Conditions: none of its own. Written by programs. -/
import Derived.Test.YtneiadniopmcnaaPFnRatiosx6
namespace Go.Proofs.Ytneiadniopmcnaa.PFnRatios
open Go.RowKit Go.Proofs.YtneiadniopmcnaaW.PrintWords Go.Proofs.YtneiadniopmcnaaW.PrintLast Go.Proofs.YtneiadniopmcnaaW.PrintMore
attribute [local go_sem] max2_int min2_int max_two min_two max_three min_three max_four min_four   -- for this text's walks alone
set_option linter.unusedVariables false
set_option linter.unusedSimpArgs false

attribute [local go_sem high] eqA24
theorem bn {w : World} {g : Nat} {o : Obj} (h : w.heap[g]? = some o) (n : Nat) : (w.drewN n).heap[g]? = some o := h
theorem bd {w : World} {g : Nat} {o : Obj} (h : w.heap[g]? = some o) : w.drew.heap[g]? = some o := h
theorem ba {w : World} {g : Nat} {o : Obj} (h : w.heap[g]? = some o) (o' : Obj) : (w.alloc o').heap[g]? = some o := blk_alloc h o'
theorem la {w W : World} (h : Below w.heap.size w W) (o : Obj) : Below w.heap.size w (W.alloc o) := below_alloc h o
theorem ln {B : Nat} {w W : World} (h : Below B w W) (n : Nat) : Below B w (W.drewN n) := pw_below_drewN h n
theorem ld {B : Nat} {w W : World} (h : Below B w W) : Below B w W.drew := below_drew1 h
theorem ls {w W : World} {g j : Nat} {v : Value} (h : Below w.heap.size w W) (hg : w.heap.size ≤ g) : Below w.heap.size w (W.setCell ⟨g, j, none⟩ v) := below_set h hg
set_option maxHeartbeats 8000000 in
set_option maxRecDepth 100000 in
theorem laws_FnRatios.calls (k : Nat) (A0 : Option Addr) (c0 : Nat) (l0 : List Int) (r : Bool) (w : World) (hr0 : Kd.C (Kd.int .u8) w A0 l0.length l0) (hc0 : l0.length ≤ c0) (h : laws_FnRatios.f k l0 = some r) (htrue : r = true) :
  Calls Try.prog 14 #[.slice A0 l0.length c0] w fun e w' => e = .returned (.bool r) ∧ Below w.heap.size w w' := by
 have hu24 := Try.underlying24
 have HR0 := Aside0.mk hr0
 have HC0 := Aside0.mk hc0
 clear hr0 hc0
 have HB := Aside0.mk (Below.refl w.heap.size w)
 have H : ((laws_big.f l0).bind fun t279 => (if t279 = true then (some true) else ((spec_DrawAddRatios.f k l0).bind fun bt280 => ((impl_AddRatios.f k bt280.1 bt280.2.1 bt280.2.2.1 bt280.2.2.2).bind fun bt286 => ((spec_AddRatios.f k bt280.1 bt280.2.1 bt280.2.2.1 bt280.2.2.2).bind fun bt290 => (if (bt286.2.2 != bt290.2.2) = true then (some false) else ((impl_AddRatios.f k bt280.2.2.1 bt280.2.2.2 bt280.1 bt280.2.1).bind fun bt294 => ((impl_TimesRatios.f k bt280.1 bt280.2.1 bt280.2.2.1 bt280.2.2.2).bind fun bt298 => ((impl_TimesRatios.f k bt280.2.2.1 bt280.2.2.2 bt280.1 bt280.2.1).bind fun bt302 => (if (bt286.2.2 != bt294.2.2) = true then (laws_FnRatios.j0 k l0 true bt280.1 bt280.2.1 bt280.2.2.1 bt280.2.2.2) else (if (!(bt286.1 == bt294.1) || (!(bt286.2.1 == bt294.2.1))) = true then (laws_FnRatios.j0 k l0 true bt280.1 bt280.2.1 bt280.2.2.1 bt280.2.2.2) else (if (bt298.2.2 != bt302.2.2) = true then (laws_FnRatios.j0 k l0 true bt280.1 bt280.2.1 bt280.2.2.1 bt280.2.2.2) else (if (!(bt298.1 == bt302.1) || (!(bt298.2.1 == bt302.2.1))) = true then (laws_FnRatios.j0 k l0 true bt280.1 bt280.2.1 bt280.2.2.1 bt280.2.2.2) else (if bt286.2.2 = true then ((impl_IsRatio.f k bt286.1 bt286.2.1).bind fun t306 => (if t306 = true then (if bt298.2.2 = true then ((impl_IsRatio.f k bt298.1 bt298.2.1).bind fun t307 => (laws_FnRatios.j0 k l0 (!t307) bt280.1 bt280.2.1 bt280.2.2.1 bt280.2.2.2)) else (laws_FnRatios.j0 k l0 false bt280.1 bt280.2.1 bt280.2.2.1 bt280.2.2.2)) else (laws_FnRatios.j0 k l0 true bt280.1 bt280.2.1 bt280.2.2.1 bt280.2.2.2))) else (if bt298.2.2 = true then ((impl_IsRatio.f k bt298.1 bt298.2.1).bind fun t308 => (laws_FnRatios.j0 k l0 (!t308) bt280.1 bt280.2.1 bt280.2.2.1 bt280.2.2.2)) else (laws_FnRatios.j0 k l0 false bt280.1 bt280.2.1 bt280.2.2.1 bt280.2.2.2)))))))))))))))) = some r := h
 clear h
 replace H := Option.bind_eq_some_iff.mp H
 obtain ⟨t279, A20, H⟩ := H
 replace H : (if t279 = true then (some true) else ((spec_DrawAddRatios.f k l0).bind fun bt280 => ((impl_AddRatios.f k bt280.1 bt280.2.1 bt280.2.2.1 bt280.2.2.2).bind fun bt286 => ((spec_AddRatios.f k bt280.1 bt280.2.1 bt280.2.2.1 bt280.2.2.2).bind fun bt290 => (if (bt286.2.2 != bt290.2.2) = true then (some false) else ((impl_AddRatios.f k bt280.2.2.1 bt280.2.2.2 bt280.1 bt280.2.1).bind fun bt294 => ((impl_TimesRatios.f k bt280.1 bt280.2.1 bt280.2.2.1 bt280.2.2.2).bind fun bt298 => ((impl_TimesRatios.f k bt280.2.2.1 bt280.2.2.2 bt280.1 bt280.2.1).bind fun bt302 => (if (bt286.2.2 != bt294.2.2) = true then (laws_FnRatios.j0 k l0 true bt280.1 bt280.2.1 bt280.2.2.1 bt280.2.2.2) else (if (!(bt286.1 == bt294.1) || (!(bt286.2.1 == bt294.2.1))) = true then (laws_FnRatios.j0 k l0 true bt280.1 bt280.2.1 bt280.2.2.1 bt280.2.2.2) else (if (bt298.2.2 != bt302.2.2) = true then (laws_FnRatios.j0 k l0 true bt280.1 bt280.2.1 bt280.2.2.1 bt280.2.2.2) else (if (!(bt298.1 == bt302.1) || (!(bt298.2.1 == bt302.2.1))) = true then (laws_FnRatios.j0 k l0 true bt280.1 bt280.2.1 bt280.2.2.1 bt280.2.2.2) else (if bt286.2.2 = true then ((impl_IsRatio.f k bt286.1 bt286.2.1).bind fun t306 => (if t306 = true then (if bt298.2.2 = true then ((impl_IsRatio.f k bt298.1 bt298.2.1).bind fun t307 => (laws_FnRatios.j0 k l0 (!t307) bt280.1 bt280.2.1 bt280.2.2.1 bt280.2.2.2)) else (laws_FnRatios.j0 k l0 false bt280.1 bt280.2.1 bt280.2.2.1 bt280.2.2.2)) else (laws_FnRatios.j0 k l0 true bt280.1 bt280.2.1 bt280.2.2.1 bt280.2.2.2))) else (if bt298.2.2 = true then ((impl_IsRatio.f k bt298.1 bt298.2.1).bind fun t308 => (laws_FnRatios.j0 k l0 (!t308) bt280.1 bt280.2.1 bt280.2.2.1 bt280.2.2.2)) else (laws_FnRatios.j0 k l0 false bt280.1 bt280.2.1 bt280.2.2.1 bt280.2.2.2))))))))))))))) = some r := H
 have A2 := Aside0.mk A20
 clear A20
 by_cases c3 : t279 = true
 ·subst c3
  have H1 : (some true) = some r := by rw [if_pos rfl] at H; exact H
  clear H
  have H := H1
  clear H1;clear htrue
  obtain rfl := Option.some.inj H
  go_enter Try.func14, Try.ntmps14
  go_wp2_with (first | ((with_reducible refine gate_callee (f := 36) rfl ?_); refine goesL_ (some 25) rfl rfl Try.func36 (by kernel_rfl) rfl #[.slice A0 l0.length c0] rfl (by (try simp only [List.map_toArray, List.map_cons, List.map_nil]); first|done|rfl) ?_; (with_reducible refine (laws_big.calls _ _ l0 true _ ?side1 ?side2 A2.out).mono ?_); (case side1 => repeat (first | exact HR0.out | (with_reducible refine Kd.C_alloc ?_ _) | (with_reducible refine Kd.C_drewN ?_ _) | (with_reducible refine Kd.C_drew ?_))); (case side2 => exact HC0.out); rintro e w' ⟨rfl, ⟨nd, rfl⟩⟩; refine ⟨_, rfl, ?_⟩))
  go_ret
  exact ⟨by first | rfl | (simp [errW_none, errW_some] <;> rfl) | (simp [*, errW_none, errW_some] <;> rfl), by repeat (first | (with_reducible first | exact HB.out | apply below_alloc | apply pw_below_drewN | apply below_drew1) | exact HB.out)⟩
 ·replace c3 := Bool.eq_false_iff.mpr c3
  subst c3
  have H1 : ((spec_DrawAddRatios.f k l0).bind fun bt280 => ((impl_AddRatios.f k bt280.1 bt280.2.1 bt280.2.2.1 bt280.2.2.2).bind fun bt286 => ((spec_AddRatios.f k bt280.1 bt280.2.1 bt280.2.2.1 bt280.2.2.2).bind fun bt290 => (if (bt286.2.2 != bt290.2.2) = true then (some false) else ((impl_AddRatios.f k bt280.2.2.1 bt280.2.2.2 bt280.1 bt280.2.1).bind fun bt294 => ((impl_TimesRatios.f k bt280.1 bt280.2.1 bt280.2.2.1 bt280.2.2.2).bind fun bt298 => ((impl_TimesRatios.f k bt280.2.2.1 bt280.2.2.2 bt280.1 bt280.2.1).bind fun bt302 => (if (bt286.2.2 != bt294.2.2) = true then (laws_FnRatios.j0 k l0 true bt280.1 bt280.2.1 bt280.2.2.1 bt280.2.2.2) else (if (!(bt286.1 == bt294.1) || (!(bt286.2.1 == bt294.2.1))) = true then (laws_FnRatios.j0 k l0 true bt280.1 bt280.2.1 bt280.2.2.1 bt280.2.2.2) else (if (bt298.2.2 != bt302.2.2) = true then (laws_FnRatios.j0 k l0 true bt280.1 bt280.2.1 bt280.2.2.1 bt280.2.2.2) else (if (!(bt298.1 == bt302.1) || (!(bt298.2.1 == bt302.2.1))) = true then (laws_FnRatios.j0 k l0 true bt280.1 bt280.2.1 bt280.2.2.1 bt280.2.2.2) else (if bt286.2.2 = true then ((impl_IsRatio.f k bt286.1 bt286.2.1).bind fun t306 => (if t306 = true then (if bt298.2.2 = true then ((impl_IsRatio.f k bt298.1 bt298.2.1).bind fun t307 => (laws_FnRatios.j0 k l0 (!t307) bt280.1 bt280.2.1 bt280.2.2.1 bt280.2.2.2)) else (laws_FnRatios.j0 k l0 false bt280.1 bt280.2.1 bt280.2.2.1 bt280.2.2.2)) else (laws_FnRatios.j0 k l0 true bt280.1 bt280.2.1 bt280.2.2.1 bt280.2.2.2))) else (if bt298.2.2 = true then ((impl_IsRatio.f k bt298.1 bt298.2.1).bind fun t308 => (laws_FnRatios.j0 k l0 (!t308) bt280.1 bt280.2.1 bt280.2.2.1 bt280.2.2.2)) else (laws_FnRatios.j0 k l0 false bt280.1 bt280.2.1 bt280.2.2.1 bt280.2.2.2)))))))))))))) = some r := by rw [if_neg (show ¬ (false = true) by decide)] at H; exact H
  clear H
  have H := H1
  clear H1
  replace H := Option.bind_eq_some_iff.mp H
  obtain ⟨⟨t280, t281, t282, t283⟩, A40, H⟩ := H
  replace H : ((impl_AddRatios.f k t280 t281 t282 t283).bind fun bt286 => ((spec_AddRatios.f k t280 t281 t282 t283).bind fun bt290 => (if (bt286.2.2 != bt290.2.2) = true then (some false) else ((impl_AddRatios.f k t282 t283 t280 t281).bind fun bt294 => ((impl_TimesRatios.f k t280 t281 t282 t283).bind fun bt298 => ((impl_TimesRatios.f k t282 t283 t280 t281).bind fun bt302 => (if (bt286.2.2 != bt294.2.2) = true then (laws_FnRatios.j0 k l0 true t280 t281 t282 t283) else (if (!(bt286.1 == bt294.1) || (!(bt286.2.1 == bt294.2.1))) = true then (laws_FnRatios.j0 k l0 true t280 t281 t282 t283) else (if (bt298.2.2 != bt302.2.2) = true then (laws_FnRatios.j0 k l0 true t280 t281 t282 t283) else (if (!(bt298.1 == bt302.1) || (!(bt298.2.1 == bt302.2.1))) = true then (laws_FnRatios.j0 k l0 true t280 t281 t282 t283) else (if bt286.2.2 = true then ((impl_IsRatio.f k bt286.1 bt286.2.1).bind fun t306 => (if t306 = true then (if bt298.2.2 = true then ((impl_IsRatio.f k bt298.1 bt298.2.1).bind fun t307 => (laws_FnRatios.j0 k l0 (!t307) t280 t281 t282 t283)) else (laws_FnRatios.j0 k l0 false t280 t281 t282 t283)) else (laws_FnRatios.j0 k l0 true t280 t281 t282 t283))) else (if bt298.2.2 = true then ((impl_IsRatio.f k bt298.1 bt298.2.1).bind fun t308 => (laws_FnRatios.j0 k l0 (!t308) t280 t281 t282 t283)) else (laws_FnRatios.j0 k l0 false t280 t281 t282 t283))))))))))))) = some r := H
  have A4 := Aside0.mk A40
  clear A40
  replace H := Option.bind_eq_some_iff.mp H
  obtain ⟨⟨t286, t287, t288⟩, A50, H⟩ := H
  replace H : ((spec_AddRatios.f k t280 t281 t282 t283).bind fun bt290 => (if (t288 != bt290.2.2) = true then (some false) else ((impl_AddRatios.f k t282 t283 t280 t281).bind fun bt294 => ((impl_TimesRatios.f k t280 t281 t282 t283).bind fun bt298 => ((impl_TimesRatios.f k t282 t283 t280 t281).bind fun bt302 => (if (t288 != bt294.2.2) = true then (laws_FnRatios.j0 k l0 true t280 t281 t282 t283) else (if (!(t286 == bt294.1) || (!(t287 == bt294.2.1))) = true then (laws_FnRatios.j0 k l0 true t280 t281 t282 t283) else (if (bt298.2.2 != bt302.2.2) = true then (laws_FnRatios.j0 k l0 true t280 t281 t282 t283) else (if (!(bt298.1 == bt302.1) || (!(bt298.2.1 == bt302.2.1))) = true then (laws_FnRatios.j0 k l0 true t280 t281 t282 t283) else (if t288 = true then ((impl_IsRatio.f k t286 t287).bind fun t306 => (if t306 = true then (if bt298.2.2 = true then ((impl_IsRatio.f k bt298.1 bt298.2.1).bind fun t307 => (laws_FnRatios.j0 k l0 (!t307) t280 t281 t282 t283)) else (laws_FnRatios.j0 k l0 false t280 t281 t282 t283)) else (laws_FnRatios.j0 k l0 true t280 t281 t282 t283))) else (if bt298.2.2 = true then ((impl_IsRatio.f k bt298.1 bt298.2.1).bind fun t308 => (laws_FnRatios.j0 k l0 (!t308) t280 t281 t282 t283)) else (laws_FnRatios.j0 k l0 false t280 t281 t282 t283)))))))))))) = some r := H
  have A5 := Aside0.mk A50
  clear A50
  replace H := Option.bind_eq_some_iff.mp H
  obtain ⟨⟨t290, t291, t292⟩, A60, H⟩ := H
  replace H : (if (t288 != t292) = true then (some false) else ((impl_AddRatios.f k t282 t283 t280 t281).bind fun bt294 => ((impl_TimesRatios.f k t280 t281 t282 t283).bind fun bt298 => ((impl_TimesRatios.f k t282 t283 t280 t281).bind fun bt302 => (if (t288 != bt294.2.2) = true then (laws_FnRatios.j0 k l0 true t280 t281 t282 t283) else (if (!(t286 == bt294.1) || (!(t287 == bt294.2.1))) = true then (laws_FnRatios.j0 k l0 true t280 t281 t282 t283) else (if (bt298.2.2 != bt302.2.2) = true then (laws_FnRatios.j0 k l0 true t280 t281 t282 t283) else (if (!(bt298.1 == bt302.1) || (!(bt298.2.1 == bt302.2.1))) = true then (laws_FnRatios.j0 k l0 true t280 t281 t282 t283) else (if t288 = true then ((impl_IsRatio.f k t286 t287).bind fun t306 => (if t306 = true then (if bt298.2.2 = true then ((impl_IsRatio.f k bt298.1 bt298.2.1).bind fun t307 => (laws_FnRatios.j0 k l0 (!t307) t280 t281 t282 t283)) else (laws_FnRatios.j0 k l0 false t280 t281 t282 t283)) else (laws_FnRatios.j0 k l0 true t280 t281 t282 t283))) else (if bt298.2.2 = true then ((impl_IsRatio.f k bt298.1 bt298.2.1).bind fun t308 => (laws_FnRatios.j0 k l0 (!t308) t280 t281 t282 t283)) else (laws_FnRatios.j0 k l0 false t280 t281 t282 t283))))))))))) = some r := H
  have A6 := Aside0.mk A60
  clear A60
  by_cases c7 : (t288 != t292) = true
  ·rw [if_pos c7] at H
   have c7b0 : (t288 != t292) = true := c7
   (try (have c7b1 : decide (t288 = t292) = false := by simpa using c7))
   (try (have c7b2 : (t288 == t292) = false := by simpa using c7))
   (try (have c7b3 : ¬ (t288 = t292) := by simpa using c7))
   clear c7
   exact absurd ((Option.some.inj H).trans htrue) (by decide)
  ·rw [if_neg c7] at H
   have c7b0 : (t288 != t292) = false := by simpa using c7
   (try (have c7b1 : decide (t288 = t292) = true := by simpa using c7))
   (try (have c7b2 : (t288 == t292) = true := by simpa using c7))
   clear c7
   replace H := Option.bind_eq_some_iff.mp H
   obtain ⟨⟨t294, t295, t296⟩, A270, H⟩ := H
   replace H : ((impl_TimesRatios.f k t280 t281 t282 t283).bind fun bt298 => ((impl_TimesRatios.f k t282 t283 t280 t281).bind fun bt302 => (if (t288 != t296) = true then (laws_FnRatios.j0 k l0 true t280 t281 t282 t283) else (if (!(t286 == t294) || (!(t287 == t295))) = true then (laws_FnRatios.j0 k l0 true t280 t281 t282 t283) else (if (bt298.2.2 != bt302.2.2) = true then (laws_FnRatios.j0 k l0 true t280 t281 t282 t283) else (if (!(bt298.1 == bt302.1) || (!(bt298.2.1 == bt302.2.1))) = true then (laws_FnRatios.j0 k l0 true t280 t281 t282 t283) else (if t288 = true then ((impl_IsRatio.f k t286 t287).bind fun t306 => (if t306 = true then (if bt298.2.2 = true then ((impl_IsRatio.f k bt298.1 bt298.2.1).bind fun t307 => (laws_FnRatios.j0 k l0 (!t307) t280 t281 t282 t283)) else (laws_FnRatios.j0 k l0 false t280 t281 t282 t283)) else (laws_FnRatios.j0 k l0 true t280 t281 t282 t283))) else (if bt298.2.2 = true then ((impl_IsRatio.f k bt298.1 bt298.2.1).bind fun t308 => (laws_FnRatios.j0 k l0 (!t308) t280 t281 t282 t283)) else (laws_FnRatios.j0 k l0 false t280 t281 t282 t283))))))))) = some r := H
   have A27 := Aside0.mk A270
   clear A270
   replace H := Option.bind_eq_some_iff.mp H
   obtain ⟨⟨t298, t299, t300⟩, A280, H⟩ := H
   replace H : ((impl_TimesRatios.f k t282 t283 t280 t281).bind fun bt302 => (if (t288 != t296) = true then (laws_FnRatios.j0 k l0 true t280 t281 t282 t283) else (if (!(t286 == t294) || (!(t287 == t295))) = true then (laws_FnRatios.j0 k l0 true t280 t281 t282 t283) else (if (t300 != bt302.2.2) = true then (laws_FnRatios.j0 k l0 true t280 t281 t282 t283) else (if (!(t298 == bt302.1) || (!(t299 == bt302.2.1))) = true then (laws_FnRatios.j0 k l0 true t280 t281 t282 t283) else (if t288 = true then ((impl_IsRatio.f k t286 t287).bind fun t306 => (if t306 = true then (if t300 = true then ((impl_IsRatio.f k t298 t299).bind fun t307 => (laws_FnRatios.j0 k l0 (!t307) t280 t281 t282 t283)) else (laws_FnRatios.j0 k l0 false t280 t281 t282 t283)) else (laws_FnRatios.j0 k l0 true t280 t281 t282 t283))) else (if t300 = true then ((impl_IsRatio.f k t298 t299).bind fun t308 => (laws_FnRatios.j0 k l0 (!t308) t280 t281 t282 t283)) else (laws_FnRatios.j0 k l0 false t280 t281 t282 t283)))))))) = some r := H
   have A28 := Aside0.mk A280
   clear A280
   replace H := Option.bind_eq_some_iff.mp H
   obtain ⟨⟨t302, t303, t304⟩, A290, H⟩ := H
   replace H : (if (t288 != t296) = true then (laws_FnRatios.j0 k l0 true t280 t281 t282 t283) else (if (!(t286 == t294) || (!(t287 == t295))) = true then (laws_FnRatios.j0 k l0 true t280 t281 t282 t283) else (if (t300 != t304) = true then (laws_FnRatios.j0 k l0 true t280 t281 t282 t283) else (if (!(t298 == t302) || (!(t299 == t303))) = true then (laws_FnRatios.j0 k l0 true t280 t281 t282 t283) else (if t288 = true then ((impl_IsRatio.f k t286 t287).bind fun t306 => (if t306 = true then (if t300 = true then ((impl_IsRatio.f k t298 t299).bind fun t307 => (laws_FnRatios.j0 k l0 (!t307) t280 t281 t282 t283)) else (laws_FnRatios.j0 k l0 false t280 t281 t282 t283)) else (laws_FnRatios.j0 k l0 true t280 t281 t282 t283))) else (if t300 = true then ((impl_IsRatio.f k t298 t299).bind fun t308 => (laws_FnRatios.j0 k l0 (!t308) t280 t281 t282 t283)) else (laws_FnRatios.j0 k l0 false t280 t281 t282 t283))))))) = some r := H
   have A29 := Aside0.mk A290
   clear A290
   have HC30 := Aside0.mk H
   clear H
   go_enter Try.func14, Try.ntmps14
   go_upto_region 11 with (first | ((with_reducible refine gate_callee (f := 36) rfl ?_); refine goesL_ (some 25) rfl rfl Try.func36 (by kernel_rfl) rfl #[.slice A0 l0.length c0] rfl (by (try simp only [List.map_toArray, List.map_cons, List.map_nil]); first|done|rfl) ?_; (with_reducible refine (laws_big.calls _ _ l0 false _ ?side1 ?side2 A2.out).mono ?_); (case side1 => repeat (first | exact HR0.out | (with_reducible refine Kd.C_alloc ?_ _) | (with_reducible refine Kd.C_drewN ?_ _) | (with_reducible refine Kd.C_drew ?_))); (case side2 => exact HC0.out); rintro e w' ⟨rfl, ⟨nd, rfl⟩⟩; refine ⟨_, rfl, ?_⟩) | ((with_reducible refine gate_callee (f := 60) rfl ?_); refine goesL_ (some 28) rfl rfl Try.func60 (by kernel_rfl) rfl #[.slice A0 l0.length c0] rfl (by (try simp only [List.map_toArray, List.map_cons, List.map_nil]); first|done|rfl) ?_; (with_reducible refine (spec_DrawAddRatios.calls k _ _ l0 t280 t281 t282 t283 _ ?side1 ?side2 A4.out).mono ?_); (case side1 => repeat (first | exact HR0.out | (with_reducible refine Kd.C_alloc ?_ _) | (with_reducible refine Kd.C_drewN ?_ _) | (with_reducible refine Kd.C_drew ?_))); (case side2 => exact HC0.out); rintro e w31 ⟨rfl, hb⟩; refine ⟨_, rfl, ?_⟩; have n0_ := Aside0.mk (below_step (by repeat first|(with_reducible first|exact HB.out|apply la|apply ln|apply ld)|exact HB.out) hb); clear HB; have HB := n0_; clear n0_; (try clear hb)) | ((with_reducible refine gate_dst (N := 3) rfl ?_); refine box_event ?hg (N := 3) ?hd (cs := #[.int .i64 0, .int .i64 0]) (t := 24) ?hr ?_; (case hd => rfl); (case hg => rfl); (case hr => first | (go_simp; done) | (go_simp; rfl)); intro gb284 hg w32 hbox hb; have n0_ := Aside0.mk (below_step (by repeat first|(with_reducible first|exact HB.out|apply la|apply ln|apply ld)|exact HB.out) hb); have n1_ := Aside0.mk (hbox); have n2_ := Aside0.mk ((by rw [hg]; exact (below_size (by repeat first|(with_reducible first|exact HB.out|apply la|apply ln|apply ld)|exact HB.out)) : w.heap.size ≤ gb284)); have n3_ := Aside0.mk ((by rw [hg]; exact (below_size (by repeat first|(with_reducible first|exact HB.out|apply la|apply ln|apply ld)|exact HB.out)) : w.heap.size ≤ gb284)); clear HB; have HB := n0_; have BK284 := n1_; have GW284 := n2_; have GE284 := n3_; clear n0_ n1_ n2_ n3_; clear hb hbox hg) | ((with_reducible refine gate_dst (N := 4) rfl ?_); refine box_event ?hg (N := 4) ?hd (cs := #[.int .i64 0, .int .i64 0]) (t := 24) ?hr ?_; (case hd => rfl); (case hg => rfl); (case hr => first | (go_simp; done) | (go_simp; rfl)); intro gb285 hg w33 hbox hb; have n0_ := Aside0.mk (blk_below (g := gb284) (o := .cells #[.int .i64 0, .int .i64 0] 24 (0, 0)) (by (with_reducible repeat first|apply bn|apply bd|apply ba); exact BK284.out) hb); have n1_ := Aside0.mk (below_step (by repeat first|(with_reducible first|exact HB.out|apply la|apply ln|apply ld|refine ls ?_ (Aside0.out (by assumption)))|exact HB.out) hb); have n2_ := Aside0.mk (hbox); have n3_ := Aside0.mk ((by rw [hg]; exact (below_size (by repeat first|(with_reducible first|exact HB.out|apply la|apply ln|apply ld|refine ls ?_ (Aside0.out (by assumption)))|exact HB.out)) : w.heap.size ≤ gb285)); have n4_ := Aside0.mk ((by rw [hg]; exact (below_size (by repeat first|(with_reducible first|exact HB.out|apply la|apply ln|apply ld|refine ls ?_ (Aside0.out (by assumption)))|exact HB.out)) : w.heap.size ≤ gb285)); have n5_ := Aside0.mk ((by rw [hg]; exact Nat.ne_of_lt (blk_lt (g := gb284) (o := .cells #[.int .i64 0, .int .i64 0] 24 (0, 0)) (by (with_reducible repeat first|apply bn|apply bd|apply ba); exact BK284.out)) : gb284 ≠ gb285)); have n6_ := Aside0.mk ((by rw [hg]; exact Nat.ne_of_gt (blk_lt (g := gb284) (o := .cells #[.int .i64 0, .int .i64 0] 24 (0, 0)) (by (with_reducible repeat first|apply bn|apply bd|apply ba); exact BK284.out)) : gb285 ≠ gb284)); clear BK284; clear HB; have BK284 := n0_; have HB := n1_; have BK285 := n2_; have GW285 := n3_; have GE285 := n4_; have NB284_285 := n5_; have NB285_284 := n6_; clear n0_ n1_ n2_ n3_ n4_ n5_ n6_; clear hb hbox hg; have hnb34 := NB284_285.out; have hnc34 := NB285_284.out; have hcz35_0 : w33.cell? ⟨gb284, 0, none⟩ = some (.int .i64 0) := (blk_cell BK284.out 0).trans rfl; have hcz35_1 : w33.cell? ⟨gb284, 1, none⟩ = some (.int .i64 0) := (blk_cell BK284.out 1).trans rfl; have hfz35_0 := blk_frozen BK284.out 0; have hfz35_1 := blk_frozen BK284.out 1; have hcz36_0 : w33.cell? ⟨gb285, 0, none⟩ = some (.int .i64 0) := (blk_cell BK285.out 0).trans rfl; have hcz36_1 : w33.cell? ⟨gb285, 1, none⟩ = some (.int .i64 0) := (blk_cell BK285.out 1).trans rfl; have hfz36_0 := blk_frozen BK285.out 0; have hfz36_1 := blk_frozen BK285.out 1) | ((with_reducible refine gate_callee (f := 24) rfl ?_); refine goesL_ (some 34) rfl rfl Try.func24 (by kernel_rfl) rfl #[.agg #[.int .i64 t280, .int .i64 t281], .agg #[.int .i64 t282, .int .i64 t283]] rfl (by (try simp only [List.map_toArray, List.map_cons, List.map_nil]); first|done|rfl) ?_; (with_reducible refine (impl_AddRatios.calls k t280 t281 t282 t283 t286 t287 t288 _ A5.out).mono ?_); rintro e w37 ⟨rfl, hb⟩; refine ⟨_, rfl, ?_⟩; have n0_ := Aside0.mk (blk_below (g := gb284) (o := .cells #[.int .i64 t280, .int .i64 t281] 24 (0, 0)) (by (with_reducible repeat first|apply bn|apply bd|apply ba); refine blk_far ?_ NB284_285.out _; (with_reducible repeat first|apply bn|apply bd|apply ba); refine blk_far ?_ NB284_285.out _; (with_reducible repeat first|apply bn|apply bd|apply ba); refine blk_put (cs := #[.int .i64 t280, .int .i64 0]) ?_ 1 _ rfl; (with_reducible repeat first|apply bn|apply bd|apply ba); refine blk_put (cs := #[.int .i64 0, .int .i64 0]) ?_ 0 _ rfl; (with_reducible repeat first|apply bn|apply bd|apply ba); exact BK284.out) hb); have n1_ := Aside0.mk (blk_below (g := gb285) (o := .cells #[.int .i64 t282, .int .i64 t283] 24 (0, 0)) (by (with_reducible repeat first|apply bn|apply bd|apply ba); refine blk_put (cs := #[.int .i64 t282, .int .i64 0]) ?_ 1 _ rfl; (with_reducible repeat first|apply bn|apply bd|apply ba); refine blk_put (cs := #[.int .i64 0, .int .i64 0]) ?_ 0 _ rfl; (with_reducible repeat first|apply bn|apply bd|apply ba); refine blk_far ?_ NB285_284.out _; (with_reducible repeat first|apply bn|apply bd|apply ba); refine blk_far ?_ NB285_284.out _; (with_reducible repeat first|apply bn|apply bd|apply ba); exact BK285.out) hb); have n2_ := Aside0.mk (below_step (by repeat first|(with_reducible first|exact HB.out|apply la|apply ln|apply ld|refine ls ?_ (Aside0.out (by assumption)))|exact HB.out) hb); clear BK284; clear BK285; clear HB; have BK284 := n0_; have BK285 := n1_; have HB := n2_; clear n0_ n1_ n2_; (try clear hb)) | ((with_reducible refine gate_dst (N := 5) rfl ?_); refine box_event ?hg (N := 5) ?hd (cs := #[.int .i64 0, .int .i64 0]) (t := 24) ?hr ?_; (case hd => rfl); (case hg => rfl); (case hr => first | (go_simp; done) | (go_simp; rfl)); intro gb289 hg w38 hbox hb; have n0_ := Aside0.mk (blk_below (g := gb284) (o := .cells #[.int .i64 t280, .int .i64 t281] 24 (0, 0)) (by (with_reducible repeat first|apply bn|apply bd|apply ba); exact BK284.out) hb); have n1_ := Aside0.mk (blk_below (g := gb285) (o := .cells #[.int .i64 t282, .int .i64 t283] 24 (0, 0)) (by (with_reducible repeat first|apply bn|apply bd|apply ba); exact BK285.out) hb); have n2_ := Aside0.mk (below_step (by repeat first|(with_reducible first|exact HB.out|apply la|apply ln|apply ld|refine ls ?_ (Aside0.out (by assumption)))|exact HB.out) hb); have n3_ := Aside0.mk (hbox); have n4_ := Aside0.mk ((by rw [hg]; exact (below_size (by repeat first|(with_reducible first|exact HB.out|apply la|apply ln|apply ld|refine ls ?_ (Aside0.out (by assumption)))|exact HB.out)) : w.heap.size ≤ gb289)); have n5_ := Aside0.mk ((by rw [hg]; exact (below_size (by repeat first|(with_reducible first|exact HB.out|apply la|apply ln|apply ld|refine ls ?_ (Aside0.out (by assumption)))|exact HB.out)) : w.heap.size ≤ gb289)); have n6_ := Aside0.mk ((by rw [hg]; exact Nat.ne_of_lt (blk_lt (g := gb284) (o := .cells #[.int .i64 t280, .int .i64 t281] 24 (0, 0)) (by (with_reducible repeat first|apply bn|apply bd|apply ba); exact BK284.out)) : gb284 ≠ gb289)); have n7_ := Aside0.mk ((by rw [hg]; exact Nat.ne_of_gt (blk_lt (g := gb284) (o := .cells #[.int .i64 t280, .int .i64 t281] 24 (0, 0)) (by (with_reducible repeat first|apply bn|apply bd|apply ba); exact BK284.out)) : gb289 ≠ gb284)); have n8_ := Aside0.mk ((by rw [hg]; exact Nat.ne_of_lt (blk_lt (g := gb285) (o := .cells #[.int .i64 t282, .int .i64 t283] 24 (0, 0)) (by (with_reducible repeat first|apply bn|apply bd|apply ba); exact BK285.out)) : gb285 ≠ gb289)); have n9_ := Aside0.mk ((by rw [hg]; exact Nat.ne_of_gt (blk_lt (g := gb285) (o := .cells #[.int .i64 t282, .int .i64 t283] 24 (0, 0)) (by (with_reducible repeat first|apply bn|apply bd|apply ba); exact BK285.out)) : gb289 ≠ gb285)); clear BK284; clear BK285; clear HB; have BK284 := n0_; have BK285 := n1_; have HB := n2_; have BK289 := n3_; have GW289 := n4_; have GE289 := n5_; have NB284_289 := n6_; have NB289_284 := n7_; have NB285_289 := n8_; have NB289_285 := n9_; clear n0_ n1_ n2_ n3_ n4_ n5_ n6_ n7_ n8_ n9_; clear hb hbox hg; have hnb39 := NB289_284.out; have hnc39 := NB284_289.out; have hnb40 := NB289_285.out; have hnc40 := NB285_289.out; have hcz41_0 : w38.cell? ⟨gb289, 0, none⟩ = some (.int .i64 0) := (blk_cell BK289.out 0).trans rfl; have hcz41_1 : w38.cell? ⟨gb289, 1, none⟩ = some (.int .i64 0) := (blk_cell BK289.out 1).trans rfl; have hfz41_0 := blk_frozen BK289.out 0; have hfz41_1 := blk_frozen BK289.out 1; have hcz42_0 : w38.cell? ⟨gb284, 0, none⟩ = some (.int .i64 t280) := (blk_cell BK284.out 0).trans rfl; have hcz42_1 : w38.cell? ⟨gb284, 1, none⟩ = some (.int .i64 t281) := (blk_cell BK284.out 1).trans rfl; have hfz42_0 := blk_frozen BK284.out 0; have hfz42_1 := blk_frozen BK284.out 1; have hcz43_0 : w38.cell? ⟨gb285, 0, none⟩ = some (.int .i64 t282) := (blk_cell BK285.out 0).trans rfl; have hcz43_1 : w38.cell? ⟨gb285, 1, none⟩ = some (.int .i64 t283) := (blk_cell BK285.out 1).trans rfl; have hfz43_0 := blk_frozen BK285.out 0; have hfz43_1 := blk_frozen BK285.out 1) | ((with_reducible refine gate_callee (f := 23) rfl ?_); refine goesL_ (some 40) rfl rfl Try.func23 (by kernel_rfl) rfl #[.agg #[.int .i64 t280, .int .i64 t281], .agg #[.int .i64 t282, .int .i64 t283]] rfl (by (try simp only [List.map_toArray, List.map_cons, List.map_nil]); first|done|rfl) ?_; (with_reducible refine (spec_AddRatios.calls k t280 t281 t282 t283 t290 t291 t292 _ A6.out).mono ?_); rintro e w44 ⟨rfl, hb⟩; refine ⟨_, rfl, ?_⟩; have n0_ := Aside0.mk (blk_below (g := gb284) (o := .cells #[.int .i64 t280, .int .i64 t281] 24 (0, 0)) (by (with_reducible repeat first|apply bn|apply bd|apply ba); refine blk_far ?_ NB284_289.out _; (with_reducible repeat first|apply bn|apply bd|apply ba); refine blk_far ?_ NB284_289.out _; (with_reducible repeat first|apply bn|apply bd|apply ba); exact BK284.out) hb); have n1_ := Aside0.mk (blk_below (g := gb285) (o := .cells #[.int .i64 t282, .int .i64 t283] 24 (0, 0)) (by (with_reducible repeat first|apply bn|apply bd|apply ba); refine blk_far ?_ NB285_289.out _; (with_reducible repeat first|apply bn|apply bd|apply ba); refine blk_far ?_ NB285_289.out _; (with_reducible repeat first|apply bn|apply bd|apply ba); exact BK285.out) hb); have n2_ := Aside0.mk (blk_below (g := gb289) (o := .cells #[.int .i64 t286, .int .i64 t287] 24 (0, 0)) (by (with_reducible repeat first|apply bn|apply bd|apply ba); refine blk_put (cs := #[.int .i64 t286, .int .i64 0]) ?_ 1 _ rfl; (with_reducible repeat first|apply bn|apply bd|apply ba); refine blk_put (cs := #[.int .i64 0, .int .i64 0]) ?_ 0 _ rfl; (with_reducible repeat first|apply bn|apply bd|apply ba); exact BK289.out) hb); have n3_ := Aside0.mk (below_step (by repeat first|(with_reducible first|exact HB.out|apply la|apply ln|apply ld|refine ls ?_ (Aside0.out (by assumption)))|exact HB.out) hb); clear BK284; clear BK285; clear BK289; clear HB; have BK284 := n0_; have BK285 := n1_; have BK289 := n2_; have HB := n3_; clear n0_ n1_ n2_ n3_; (try clear hb)) | ((with_reducible refine gate_dst (N := 7) rfl ?_); refine box_event ?hg (N := 7) ?hd (cs := #[.int .i64 0, .int .i64 0]) (t := 24) ?hr ?_; (case hd => rfl); (case hg => rfl); (case hr => first | (go_simp; done) | (go_simp; rfl)); intro gb293 hg w45 hbox hb; have n0_ := Aside0.mk (blk_below (g := gb284) (o := .cells #[.int .i64 t280, .int .i64 t281] 24 (0, 0)) (by (with_reducible repeat first|apply bn|apply bd|apply ba); exact BK284.out) hb); have n1_ := Aside0.mk (blk_below (g := gb285) (o := .cells #[.int .i64 t282, .int .i64 t283] 24 (0, 0)) (by (with_reducible repeat first|apply bn|apply bd|apply ba); exact BK285.out) hb); have n2_ := Aside0.mk (blk_below (g := gb289) (o := .cells #[.int .i64 t286, .int .i64 t287] 24 (0, 0)) (by (with_reducible repeat first|apply bn|apply bd|apply ba); exact BK289.out) hb); have n3_ := Aside0.mk (below_step (by repeat first|(with_reducible first|exact HB.out|apply la|apply ln|apply ld|refine ls ?_ (Aside0.out (by assumption)))|exact HB.out) hb); have n4_ := Aside0.mk (hbox); have n5_ := Aside0.mk ((by rw [hg]; exact (below_size (by repeat first|(with_reducible first|exact HB.out|apply la|apply ln|apply ld|refine ls ?_ (Aside0.out (by assumption)))|exact HB.out)) : w.heap.size ≤ gb293)); have n6_ := Aside0.mk ((by rw [hg]; exact (below_size (by repeat first|(with_reducible first|exact HB.out|apply la|apply ln|apply ld|refine ls ?_ (Aside0.out (by assumption)))|exact HB.out)) : w.heap.size ≤ gb293)); have n7_ := Aside0.mk ((by rw [hg]; exact Nat.ne_of_lt (blk_lt (g := gb284) (o := .cells #[.int .i64 t280, .int .i64 t281] 24 (0, 0)) (by (with_reducible repeat first|apply bn|apply bd|apply ba); exact BK284.out)) : gb284 ≠ gb293)); have n8_ := Aside0.mk ((by rw [hg]; exact Nat.ne_of_gt (blk_lt (g := gb284) (o := .cells #[.int .i64 t280, .int .i64 t281] 24 (0, 0)) (by (with_reducible repeat first|apply bn|apply bd|apply ba); exact BK284.out)) : gb293 ≠ gb284)); have n9_ := Aside0.mk ((by rw [hg]; exact Nat.ne_of_lt (blk_lt (g := gb285) (o := .cells #[.int .i64 t282, .int .i64 t283] 24 (0, 0)) (by (with_reducible repeat first|apply bn|apply bd|apply ba); exact BK285.out)) : gb285 ≠ gb293)); have n10_ := Aside0.mk ((by rw [hg]; exact Nat.ne_of_gt (blk_lt (g := gb285) (o := .cells #[.int .i64 t282, .int .i64 t283] 24 (0, 0)) (by (with_reducible repeat first|apply bn|apply bd|apply ba); exact BK285.out)) : gb293 ≠ gb285)); have n11_ := Aside0.mk ((by rw [hg]; exact Nat.ne_of_lt (blk_lt (g := gb289) (o := .cells #[.int .i64 t286, .int .i64 t287] 24 (0, 0)) (by (with_reducible repeat first|apply bn|apply bd|apply ba); exact BK289.out)) : gb289 ≠ gb293)); have n12_ := Aside0.mk ((by rw [hg]; exact Nat.ne_of_gt (blk_lt (g := gb289) (o := .cells #[.int .i64 t286, .int .i64 t287] 24 (0, 0)) (by (with_reducible repeat first|apply bn|apply bd|apply ba); exact BK289.out)) : gb293 ≠ gb289)); clear BK284; clear BK285; clear BK289; clear HB; have BK284 := n0_; have BK285 := n1_; have BK289 := n2_; have HB := n3_; have BK293 := n4_; have GW293 := n5_; have GE293 := n6_; have NB284_293 := n7_; have NB293_284 := n8_; have NB285_293 := n9_; have NB293_285 := n10_; have NB289_293 := n11_; have NB293_289 := n12_; clear n0_ n1_ n2_ n3_ n4_ n5_ n6_ n7_ n8_ n9_ n10_ n11_ n12_; clear hb hbox hg; have hnb46 := NB293_284.out; have hnc46 := NB284_293.out; have hnb47 := NB293_285.out; have hnc47 := NB285_293.out; have hnb48 := NB293_289.out; have hnc48 := NB289_293.out; have hcz49_0 : w45.cell? ⟨gb293, 0, none⟩ = some (.int .i64 0) := (blk_cell BK293.out 0).trans rfl; have hcz49_1 : w45.cell? ⟨gb293, 1, none⟩ = some (.int .i64 0) := (blk_cell BK293.out 1).trans rfl; have hfz49_0 := blk_frozen BK293.out 0; have hfz49_1 := blk_frozen BK293.out 1; have hcz50_0 : w45.cell? ⟨gb285, 0, none⟩ = some (.int .i64 t282) := (blk_cell BK285.out 0).trans rfl; have hcz50_1 : w45.cell? ⟨gb285, 1, none⟩ = some (.int .i64 t283) := (blk_cell BK285.out 1).trans rfl; have hfz50_0 := blk_frozen BK285.out 0; have hfz50_1 := blk_frozen BK285.out 1; have hcz51_0 : w45.cell? ⟨gb284, 0, none⟩ = some (.int .i64 t280) := (blk_cell BK284.out 0).trans rfl; have hcz51_1 : w45.cell? ⟨gb284, 1, none⟩ = some (.int .i64 t281) := (blk_cell BK284.out 1).trans rfl; have hfz51_0 := blk_frozen BK284.out 0; have hfz51_1 := blk_frozen BK284.out 1) | ((with_reducible refine gate_callee (f := 24) rfl ?_); refine goesL_ (some 49) rfl rfl Try.func24 (by kernel_rfl) rfl #[.agg #[.int .i64 t282, .int .i64 t283], .agg #[.int .i64 t280, .int .i64 t281]] rfl (by (try simp only [List.map_toArray, List.map_cons, List.map_nil]); first|done|rfl) ?_; (with_reducible refine (impl_AddRatios.calls k t282 t283 t280 t281 t294 t295 t296 _ A27.out).mono ?_); rintro e w52 ⟨rfl, hb⟩; refine ⟨_, rfl, ?_⟩; have n0_ := Aside0.mk (blk_below (g := gb284) (o := .cells #[.int .i64 t280, .int .i64 t281] 24 (0, 0)) (by (with_reducible repeat first|apply bn|apply bd|apply ba); refine blk_far ?_ NB284_293.out _; (with_reducible repeat first|apply bn|apply bd|apply ba); refine blk_far ?_ NB284_293.out _; (with_reducible repeat first|apply bn|apply bd|apply ba); exact BK284.out) hb); have n1_ := Aside0.mk (blk_below (g := gb285) (o := .cells #[.int .i64 t282, .int .i64 t283] 24 (0, 0)) (by (with_reducible repeat first|apply bn|apply bd|apply ba); refine blk_far ?_ NB285_293.out _; (with_reducible repeat first|apply bn|apply bd|apply ba); refine blk_far ?_ NB285_293.out _; (with_reducible repeat first|apply bn|apply bd|apply ba); exact BK285.out) hb); have n2_ := Aside0.mk (blk_below (g := gb289) (o := .cells #[.int .i64 t286, .int .i64 t287] 24 (0, 0)) (by (with_reducible repeat first|apply bn|apply bd|apply ba); refine blk_far ?_ NB289_293.out _; (with_reducible repeat first|apply bn|apply bd|apply ba); refine blk_far ?_ NB289_293.out _; (with_reducible repeat first|apply bn|apply bd|apply ba); exact BK289.out) hb); have n3_ := Aside0.mk (blk_below (g := gb293) (o := .cells #[.int .i64 t290, .int .i64 t291] 24 (0, 0)) (by (with_reducible repeat first|apply bn|apply bd|apply ba); refine blk_put (cs := #[.int .i64 t290, .int .i64 0]) ?_ 1 _ rfl; (with_reducible repeat first|apply bn|apply bd|apply ba); refine blk_put (cs := #[.int .i64 0, .int .i64 0]) ?_ 0 _ rfl; (with_reducible repeat first|apply bn|apply bd|apply ba); exact BK293.out) hb); have n4_ := Aside0.mk (below_step (by repeat first|(with_reducible first|exact HB.out|apply la|apply ln|apply ld|refine ls ?_ (Aside0.out (by assumption)))|exact HB.out) hb); clear BK284; clear BK285; clear BK289; clear BK293; clear HB; have BK284 := n0_; have BK285 := n1_; have BK289 := n2_; have BK293 := n3_; have HB := n4_; clear n0_ n1_ n2_ n3_ n4_; (try clear hb)) | ((with_reducible refine gate_dst (N := 9) rfl ?_); refine box_event ?hg (N := 9) ?hd (cs := #[.int .i64 0, .int .i64 0]) (t := 24) ?hr ?_; (case hd => rfl); (case hg => rfl); (case hr => first | (go_simp; done) | (go_simp; rfl)); intro gb297 hg w53 hbox hb; have n0_ := Aside0.mk (blk_below (g := gb284) (o := .cells #[.int .i64 t280, .int .i64 t281] 24 (0, 0)) (by (with_reducible repeat first|apply bn|apply bd|apply ba); exact BK284.out) hb); have n1_ := Aside0.mk (blk_below (g := gb285) (o := .cells #[.int .i64 t282, .int .i64 t283] 24 (0, 0)) (by (with_reducible repeat first|apply bn|apply bd|apply ba); exact BK285.out) hb); have n2_ := Aside0.mk (blk_below (g := gb289) (o := .cells #[.int .i64 t286, .int .i64 t287] 24 (0, 0)) (by (with_reducible repeat first|apply bn|apply bd|apply ba); exact BK289.out) hb); have n3_ := Aside0.mk (blk_below (g := gb293) (o := .cells #[.int .i64 t290, .int .i64 t291] 24 (0, 0)) (by (with_reducible repeat first|apply bn|apply bd|apply ba); exact BK293.out) hb); have n4_ := Aside0.mk (below_step (by repeat first|(with_reducible first|exact HB.out|apply la|apply ln|apply ld|refine ls ?_ (Aside0.out (by assumption)))|exact HB.out) hb); have n5_ := Aside0.mk (hbox); have n6_ := Aside0.mk ((by rw [hg]; exact (below_size (by repeat first|(with_reducible first|exact HB.out|apply la|apply ln|apply ld|refine ls ?_ (Aside0.out (by assumption)))|exact HB.out)) : w.heap.size ≤ gb297)); have n7_ := Aside0.mk ((by rw [hg]; exact (below_size (by repeat first|(with_reducible first|exact HB.out|apply la|apply ln|apply ld|refine ls ?_ (Aside0.out (by assumption)))|exact HB.out)) : w.heap.size ≤ gb297)); have n8_ := Aside0.mk ((by rw [hg]; exact Nat.ne_of_lt (blk_lt (g := gb284) (o := .cells #[.int .i64 t280, .int .i64 t281] 24 (0, 0)) (by (with_reducible repeat first|apply bn|apply bd|apply ba); exact BK284.out)) : gb284 ≠ gb297)); have n9_ := Aside0.mk ((by rw [hg]; exact Nat.ne_of_gt (blk_lt (g := gb284) (o := .cells #[.int .i64 t280, .int .i64 t281] 24 (0, 0)) (by (with_reducible repeat first|apply bn|apply bd|apply ba); exact BK284.out)) : gb297 ≠ gb284)); have n10_ := Aside0.mk ((by rw [hg]; exact Nat.ne_of_lt (blk_lt (g := gb285) (o := .cells #[.int .i64 t282, .int .i64 t283] 24 (0, 0)) (by (with_reducible repeat first|apply bn|apply bd|apply ba); exact BK285.out)) : gb285 ≠ gb297)); have n11_ := Aside0.mk ((by rw [hg]; exact Nat.ne_of_gt (blk_lt (g := gb285) (o := .cells #[.int .i64 t282, .int .i64 t283] 24 (0, 0)) (by (with_reducible repeat first|apply bn|apply bd|apply ba); exact BK285.out)) : gb297 ≠ gb285)); have n12_ := Aside0.mk ((by rw [hg]; exact Nat.ne_of_lt (blk_lt (g := gb289) (o := .cells #[.int .i64 t286, .int .i64 t287] 24 (0, 0)) (by (with_reducible repeat first|apply bn|apply bd|apply ba); exact BK289.out)) : gb289 ≠ gb297)); have n13_ := Aside0.mk ((by rw [hg]; exact Nat.ne_of_gt (blk_lt (g := gb289) (o := .cells #[.int .i64 t286, .int .i64 t287] 24 (0, 0)) (by (with_reducible repeat first|apply bn|apply bd|apply ba); exact BK289.out)) : gb297 ≠ gb289)); have n14_ := Aside0.mk ((by rw [hg]; exact Nat.ne_of_lt (blk_lt (g := gb293) (o := .cells #[.int .i64 t290, .int .i64 t291] 24 (0, 0)) (by (with_reducible repeat first|apply bn|apply bd|apply ba); exact BK293.out)) : gb293 ≠ gb297)); have n15_ := Aside0.mk ((by rw [hg]; exact Nat.ne_of_gt (blk_lt (g := gb293) (o := .cells #[.int .i64 t290, .int .i64 t291] 24 (0, 0)) (by (with_reducible repeat first|apply bn|apply bd|apply ba); exact BK293.out)) : gb297 ≠ gb293)); clear BK284; clear BK285; clear BK289; clear BK293; clear HB; have BK284 := n0_; have BK285 := n1_; have BK289 := n2_; have BK293 := n3_; have HB := n4_; have BK297 := n5_; have GW297 := n6_; have GE297 := n7_; have NB284_297 := n8_; have NB297_284 := n9_; have NB285_297 := n10_; have NB297_285 := n11_; have NB289_297 := n12_; have NB297_289 := n13_; have NB293_297 := n14_; have NB297_293 := n15_; clear n0_ n1_ n2_ n3_ n4_ n5_ n6_ n7_ n8_ n9_ n10_ n11_ n12_ n13_ n14_ n15_; clear hb hbox hg; have hnb54 := NB297_284.out; have hnc54 := NB284_297.out; have hnb55 := NB297_285.out; have hnc55 := NB285_297.out; have hnb56 := NB297_289.out; have hnc56 := NB289_297.out; have hnb57 := NB297_293.out; have hnc57 := NB293_297.out; have hcz58_0 : w53.cell? ⟨gb297, 0, none⟩ = some (.int .i64 0) := (blk_cell BK297.out 0).trans rfl; have hcz58_1 : w53.cell? ⟨gb297, 1, none⟩ = some (.int .i64 0) := (blk_cell BK297.out 1).trans rfl; have hfz58_0 := blk_frozen BK297.out 0; have hfz58_1 := blk_frozen BK297.out 1; have hcz59_0 : w53.cell? ⟨gb284, 0, none⟩ = some (.int .i64 t280) := (blk_cell BK284.out 0).trans rfl; have hcz59_1 : w53.cell? ⟨gb284, 1, none⟩ = some (.int .i64 t281) := (blk_cell BK284.out 1).trans rfl; have hfz59_0 := blk_frozen BK284.out 0; have hfz59_1 := blk_frozen BK284.out 1; have hcz60_0 : w53.cell? ⟨gb285, 0, none⟩ = some (.int .i64 t282) := (blk_cell BK285.out 0).trans rfl; have hcz60_1 : w53.cell? ⟨gb285, 1, none⟩ = some (.int .i64 t283) := (blk_cell BK285.out 1).trans rfl; have hfz60_0 := blk_frozen BK285.out 0; have hfz60_1 := blk_frozen BK285.out 1) | ((with_reducible refine gate_callee (f := 26) rfl ?_); refine goesL_ (some 55) rfl rfl Try.func26 (by kernel_rfl) rfl #[.agg #[.int .i64 t280, .int .i64 t281], .agg #[.int .i64 t282, .int .i64 t283]] rfl (by (try simp only [List.map_toArray, List.map_cons, List.map_nil]); first|done|rfl) ?_; (with_reducible refine (impl_TimesRatios.calls k t280 t281 t282 t283 t298 t299 t300 _ A28.out).mono ?_); rintro e w61 ⟨rfl, hb⟩; refine ⟨_, rfl, ?_⟩; have n0_ := Aside0.mk (blk_below (g := gb284) (o := .cells #[.int .i64 t280, .int .i64 t281] 24 (0, 0)) (by (with_reducible repeat first|apply bn|apply bd|apply ba); refine blk_far ?_ NB284_297.out _; (with_reducible repeat first|apply bn|apply bd|apply ba); refine blk_far ?_ NB284_297.out _; (with_reducible repeat first|apply bn|apply bd|apply ba); exact BK284.out) hb); have n1_ := Aside0.mk (blk_below (g := gb285) (o := .cells #[.int .i64 t282, .int .i64 t283] 24 (0, 0)) (by (with_reducible repeat first|apply bn|apply bd|apply ba); refine blk_far ?_ NB285_297.out _; (with_reducible repeat first|apply bn|apply bd|apply ba); refine blk_far ?_ NB285_297.out _; (with_reducible repeat first|apply bn|apply bd|apply ba); exact BK285.out) hb); have n2_ := Aside0.mk (blk_below (g := gb289) (o := .cells #[.int .i64 t286, .int .i64 t287] 24 (0, 0)) (by (with_reducible repeat first|apply bn|apply bd|apply ba); refine blk_far ?_ NB289_297.out _; (with_reducible repeat first|apply bn|apply bd|apply ba); refine blk_far ?_ NB289_297.out _; (with_reducible repeat first|apply bn|apply bd|apply ba); exact BK289.out) hb); have n3_ := Aside0.mk (blk_below (g := gb293) (o := .cells #[.int .i64 t290, .int .i64 t291] 24 (0, 0)) (by (with_reducible repeat first|apply bn|apply bd|apply ba); refine blk_far ?_ NB293_297.out _; (with_reducible repeat first|apply bn|apply bd|apply ba); refine blk_far ?_ NB293_297.out _; (with_reducible repeat first|apply bn|apply bd|apply ba); exact BK293.out) hb); have n4_ := Aside0.mk (blk_below (g := gb297) (o := .cells #[.int .i64 t294, .int .i64 t295] 24 (0, 0)) (by (with_reducible repeat first|apply bn|apply bd|apply ba); refine blk_put (cs := #[.int .i64 t294, .int .i64 0]) ?_ 1 _ rfl; (with_reducible repeat first|apply bn|apply bd|apply ba); refine blk_put (cs := #[.int .i64 0, .int .i64 0]) ?_ 0 _ rfl; (with_reducible repeat first|apply bn|apply bd|apply ba); exact BK297.out) hb); have n5_ := Aside0.mk (below_step (by repeat first|(with_reducible first|exact HB.out|apply la|apply ln|apply ld|refine ls ?_ (Aside0.out (by assumption)))|exact HB.out) hb); clear BK284; clear BK285; clear BK289; clear BK293; clear BK297; clear HB; have BK284 := n0_; have BK285 := n1_; have BK289 := n2_; have BK293 := n3_; have BK297 := n4_; have HB := n5_; clear n0_ n1_ n2_ n3_ n4_ n5_; (try clear hb)) | ((with_reducible refine gate_dst (N := 11) rfl ?_); refine box_event ?hg (N := 11) ?hd (cs := #[.int .i64 0, .int .i64 0]) (t := 24) ?hr ?_; (case hd => rfl); (case hg => rfl); (case hr => first | (go_simp; done) | (go_simp; rfl)); intro gb301 hg w62 hbox hb; have n0_ := Aside0.mk (blk_below (g := gb284) (o := .cells #[.int .i64 t280, .int .i64 t281] 24 (0, 0)) (by (with_reducible repeat first|apply bn|apply bd|apply ba); exact BK284.out) hb); have n1_ := Aside0.mk (blk_below (g := gb285) (o := .cells #[.int .i64 t282, .int .i64 t283] 24 (0, 0)) (by (with_reducible repeat first|apply bn|apply bd|apply ba); exact BK285.out) hb); have n2_ := Aside0.mk (blk_below (g := gb289) (o := .cells #[.int .i64 t286, .int .i64 t287] 24 (0, 0)) (by (with_reducible repeat first|apply bn|apply bd|apply ba); exact BK289.out) hb); have n3_ := Aside0.mk (blk_below (g := gb293) (o := .cells #[.int .i64 t290, .int .i64 t291] 24 (0, 0)) (by (with_reducible repeat first|apply bn|apply bd|apply ba); exact BK293.out) hb); have n4_ := Aside0.mk (blk_below (g := gb297) (o := .cells #[.int .i64 t294, .int .i64 t295] 24 (0, 0)) (by (with_reducible repeat first|apply bn|apply bd|apply ba); exact BK297.out) hb); have n5_ := Aside0.mk (below_step (by repeat first|(with_reducible first|exact HB.out|apply la|apply ln|apply ld|refine ls ?_ (Aside0.out (by assumption)))|exact HB.out) hb); have n6_ := Aside0.mk (hbox); have n7_ := Aside0.mk ((by rw [hg]; exact (below_size (by repeat first|(with_reducible first|exact HB.out|apply la|apply ln|apply ld|refine ls ?_ (Aside0.out (by assumption)))|exact HB.out)) : w.heap.size ≤ gb301)); have n8_ := Aside0.mk ((by rw [hg]; exact (below_size (by repeat first|(with_reducible first|exact HB.out|apply la|apply ln|apply ld|refine ls ?_ (Aside0.out (by assumption)))|exact HB.out)) : w.heap.size ≤ gb301)); have n9_ := Aside0.mk ((by rw [hg]; exact Nat.ne_of_lt (blk_lt (g := gb284) (o := .cells #[.int .i64 t280, .int .i64 t281] 24 (0, 0)) (by (with_reducible repeat first|apply bn|apply bd|apply ba); exact BK284.out)) : gb284 ≠ gb301)); have n10_ := Aside0.mk ((by rw [hg]; exact Nat.ne_of_gt (blk_lt (g := gb284) (o := .cells #[.int .i64 t280, .int .i64 t281] 24 (0, 0)) (by (with_reducible repeat first|apply bn|apply bd|apply ba); exact BK284.out)) : gb301 ≠ gb284)); have n11_ := Aside0.mk ((by rw [hg]; exact Nat.ne_of_lt (blk_lt (g := gb285) (o := .cells #[.int .i64 t282, .int .i64 t283] 24 (0, 0)) (by (with_reducible repeat first|apply bn|apply bd|apply ba); exact BK285.out)) : gb285 ≠ gb301)); have n12_ := Aside0.mk ((by rw [hg]; exact Nat.ne_of_gt (blk_lt (g := gb285) (o := .cells #[.int .i64 t282, .int .i64 t283] 24 (0, 0)) (by (with_reducible repeat first|apply bn|apply bd|apply ba); exact BK285.out)) : gb301 ≠ gb285)); have n13_ := Aside0.mk ((by rw [hg]; exact Nat.ne_of_lt (blk_lt (g := gb289) (o := .cells #[.int .i64 t286, .int .i64 t287] 24 (0, 0)) (by (with_reducible repeat first|apply bn|apply bd|apply ba); exact BK289.out)) : gb289 ≠ gb301)); have n14_ := Aside0.mk ((by rw [hg]; exact Nat.ne_of_gt (blk_lt (g := gb289) (o := .cells #[.int .i64 t286, .int .i64 t287] 24 (0, 0)) (by (with_reducible repeat first|apply bn|apply bd|apply ba); exact BK289.out)) : gb301 ≠ gb289)); have n15_ := Aside0.mk ((by rw [hg]; exact Nat.ne_of_lt (blk_lt (g := gb293) (o := .cells #[.int .i64 t290, .int .i64 t291] 24 (0, 0)) (by (with_reducible repeat first|apply bn|apply bd|apply ba); exact BK293.out)) : gb293 ≠ gb301)); have n16_ := Aside0.mk ((by rw [hg]; exact Nat.ne_of_gt (blk_lt (g := gb293) (o := .cells #[.int .i64 t290, .int .i64 t291] 24 (0, 0)) (by (with_reducible repeat first|apply bn|apply bd|apply ba); exact BK293.out)) : gb301 ≠ gb293)); have n17_ := Aside0.mk ((by rw [hg]; exact Nat.ne_of_lt (blk_lt (g := gb297) (o := .cells #[.int .i64 t294, .int .i64 t295] 24 (0, 0)) (by (with_reducible repeat first|apply bn|apply bd|apply ba); exact BK297.out)) : gb297 ≠ gb301)); have n18_ := Aside0.mk ((by rw [hg]; exact Nat.ne_of_gt (blk_lt (g := gb297) (o := .cells #[.int .i64 t294, .int .i64 t295] 24 (0, 0)) (by (with_reducible repeat first|apply bn|apply bd|apply ba); exact BK297.out)) : gb301 ≠ gb297)); clear BK284; clear BK285; clear BK289; clear BK293; clear BK297; clear HB; have BK284 := n0_; have BK285 := n1_; have BK289 := n2_; have BK293 := n3_; have BK297 := n4_; have HB := n5_; have BK301 := n6_; have GW301 := n7_; have GE301 := n8_; have NB284_301 := n9_; have NB301_284 := n10_; have NB285_301 := n11_; have NB301_285 := n12_; have NB289_301 := n13_; have NB301_289 := n14_; have NB293_301 := n15_; have NB301_293 := n16_; have NB297_301 := n17_; have NB301_297 := n18_; clear n0_ n1_ n2_ n3_ n4_ n5_ n6_ n7_ n8_ n9_ n10_ n11_ n12_ n13_ n14_ n15_ n16_ n17_ n18_; clear hb hbox hg; have hnb63 := NB301_284.out; have hnc63 := NB284_301.out; have hnb64 := NB301_285.out; have hnc64 := NB285_301.out; have hnb65 := NB301_289.out; have hnc65 := NB289_301.out; have hnb66 := NB301_293.out; have hnc66 := NB293_301.out; have hnb67 := NB301_297.out; have hnc67 := NB297_301.out; have hcz68_0 : w62.cell? ⟨gb301, 0, none⟩ = some (.int .i64 0) := (blk_cell BK301.out 0).trans rfl; have hcz68_1 : w62.cell? ⟨gb301, 1, none⟩ = some (.int .i64 0) := (blk_cell BK301.out 1).trans rfl; have hfz68_0 := blk_frozen BK301.out 0; have hfz68_1 := blk_frozen BK301.out 1; have hcz69_0 : w62.cell? ⟨gb285, 0, none⟩ = some (.int .i64 t282) := (blk_cell BK285.out 0).trans rfl; have hcz69_1 : w62.cell? ⟨gb285, 1, none⟩ = some (.int .i64 t283) := (blk_cell BK285.out 1).trans rfl; have hfz69_0 := blk_frozen BK285.out 0; have hfz69_1 := blk_frozen BK285.out 1; have hcz70_0 : w62.cell? ⟨gb284, 0, none⟩ = some (.int .i64 t280) := (blk_cell BK284.out 0).trans rfl; have hcz70_1 : w62.cell? ⟨gb284, 1, none⟩ = some (.int .i64 t281) := (blk_cell BK284.out 1).trans rfl; have hfz70_0 := blk_frozen BK284.out 0; have hfz70_1 := blk_frozen BK284.out 1) | ((with_reducible refine gate_callee (f := 26) rfl ?_); refine goesL_ (some 61) rfl rfl Try.func26 (by kernel_rfl) rfl #[.agg #[.int .i64 t282, .int .i64 t283], .agg #[.int .i64 t280, .int .i64 t281]] rfl (by (try simp only [List.map_toArray, List.map_cons, List.map_nil]); first|done|rfl) ?_; (with_reducible refine (impl_TimesRatios.calls k t282 t283 t280 t281 t302 t303 t304 _ A29.out).mono ?_); rintro e w71 ⟨rfl, hb⟩; refine ⟨_, rfl, ?_⟩; have n0_ := Aside0.mk (blk_below (g := gb284) (o := .cells #[.int .i64 t280, .int .i64 t281] 24 (0, 0)) (by (with_reducible repeat first|apply bn|apply bd|apply ba); refine blk_far ?_ NB284_301.out _; (with_reducible repeat first|apply bn|apply bd|apply ba); refine blk_far ?_ NB284_301.out _; (with_reducible repeat first|apply bn|apply bd|apply ba); exact BK284.out) hb); have n1_ := Aside0.mk (blk_below (g := gb285) (o := .cells #[.int .i64 t282, .int .i64 t283] 24 (0, 0)) (by (with_reducible repeat first|apply bn|apply bd|apply ba); refine blk_far ?_ NB285_301.out _; (with_reducible repeat first|apply bn|apply bd|apply ba); refine blk_far ?_ NB285_301.out _; (with_reducible repeat first|apply bn|apply bd|apply ba); exact BK285.out) hb); have n2_ := Aside0.mk (blk_below (g := gb289) (o := .cells #[.int .i64 t286, .int .i64 t287] 24 (0, 0)) (by (with_reducible repeat first|apply bn|apply bd|apply ba); refine blk_far ?_ NB289_301.out _; (with_reducible repeat first|apply bn|apply bd|apply ba); refine blk_far ?_ NB289_301.out _; (with_reducible repeat first|apply bn|apply bd|apply ba); exact BK289.out) hb); have n3_ := Aside0.mk (blk_below (g := gb293) (o := .cells #[.int .i64 t290, .int .i64 t291] 24 (0, 0)) (by (with_reducible repeat first|apply bn|apply bd|apply ba); refine blk_far ?_ NB293_301.out _; (with_reducible repeat first|apply bn|apply bd|apply ba); refine blk_far ?_ NB293_301.out _; (with_reducible repeat first|apply bn|apply bd|apply ba); exact BK293.out) hb); have n4_ := Aside0.mk (blk_below (g := gb297) (o := .cells #[.int .i64 t294, .int .i64 t295] 24 (0, 0)) (by (with_reducible repeat first|apply bn|apply bd|apply ba); refine blk_far ?_ NB297_301.out _; (with_reducible repeat first|apply bn|apply bd|apply ba); refine blk_far ?_ NB297_301.out _; (with_reducible repeat first|apply bn|apply bd|apply ba); exact BK297.out) hb); have n5_ := Aside0.mk (blk_below (g := gb301) (o := .cells #[.int .i64 t298, .int .i64 t299] 24 (0, 0)) (by (with_reducible repeat first|apply bn|apply bd|apply ba); refine blk_put (cs := #[.int .i64 t298, .int .i64 0]) ?_ 1 _ rfl; (with_reducible repeat first|apply bn|apply bd|apply ba); refine blk_put (cs := #[.int .i64 0, .int .i64 0]) ?_ 0 _ rfl; (with_reducible repeat first|apply bn|apply bd|apply ba); exact BK301.out) hb); have n6_ := Aside0.mk (below_step (by repeat first|(with_reducible first|exact HB.out|apply la|apply ln|apply ld|refine ls ?_ (Aside0.out (by assumption)))|exact HB.out) hb); clear BK284; clear BK285; clear BK289; clear BK293; clear BK297; clear BK301; clear HB; have BK284 := n0_; have BK285 := n1_; have BK289 := n2_; have BK293 := n3_; have BK297 := n4_; have BK301 := n5_; have HB := n6_; clear n0_ n1_ n2_ n3_ n4_ n5_ n6_; (try clear hb)) | ((with_reducible refine gate_dst (N := 13) rfl ?_); refine box_event ?hg (N := 13) ?hd (cs := #[.int .i64 0, .int .i64 0]) (t := 24) ?hr ?_; (case hd => rfl); (case hg => rfl); (case hr => first | (go_simp; done) | (go_simp; rfl)); intro gb305 hg w72 hbox hb; have n0_ := Aside0.mk (blk_below (g := gb284) (o := .cells #[.int .i64 t280, .int .i64 t281] 24 (0, 0)) (by (with_reducible repeat first|apply bn|apply bd|apply ba); exact BK284.out) hb); have n1_ := Aside0.mk (blk_below (g := gb285) (o := .cells #[.int .i64 t282, .int .i64 t283] 24 (0, 0)) (by (with_reducible repeat first|apply bn|apply bd|apply ba); exact BK285.out) hb); have n2_ := Aside0.mk (blk_below (g := gb289) (o := .cells #[.int .i64 t286, .int .i64 t287] 24 (0, 0)) (by (with_reducible repeat first|apply bn|apply bd|apply ba); exact BK289.out) hb); have n3_ := Aside0.mk (blk_below (g := gb293) (o := .cells #[.int .i64 t290, .int .i64 t291] 24 (0, 0)) (by (with_reducible repeat first|apply bn|apply bd|apply ba); exact BK293.out) hb); have n4_ := Aside0.mk (blk_below (g := gb297) (o := .cells #[.int .i64 t294, .int .i64 t295] 24 (0, 0)) (by (with_reducible repeat first|apply bn|apply bd|apply ba); exact BK297.out) hb); have n5_ := Aside0.mk (blk_below (g := gb301) (o := .cells #[.int .i64 t298, .int .i64 t299] 24 (0, 0)) (by (with_reducible repeat first|apply bn|apply bd|apply ba); exact BK301.out) hb); have n6_ := Aside0.mk (below_step (by repeat first|(with_reducible first|exact HB.out|apply la|apply ln|apply ld|refine ls ?_ (Aside0.out (by assumption)))|exact HB.out) hb); have n7_ := Aside0.mk (hbox); have n8_ := Aside0.mk ((by rw [hg]; exact (below_size (by repeat first|(with_reducible first|exact HB.out|apply la|apply ln|apply ld|refine ls ?_ (Aside0.out (by assumption)))|exact HB.out)) : w.heap.size ≤ gb305)); have n9_ := Aside0.mk ((by rw [hg]; exact (below_size (by repeat first|(with_reducible first|exact HB.out|apply la|apply ln|apply ld|refine ls ?_ (Aside0.out (by assumption)))|exact HB.out)) : w.heap.size ≤ gb305)); have n10_ := Aside0.mk ((by rw [hg]; exact Nat.ne_of_lt (blk_lt (g := gb284) (o := .cells #[.int .i64 t280, .int .i64 t281] 24 (0, 0)) (by (with_reducible repeat first|apply bn|apply bd|apply ba); exact BK284.out)) : gb284 ≠ gb305)); have n11_ := Aside0.mk ((by rw [hg]; exact Nat.ne_of_gt (blk_lt (g := gb284) (o := .cells #[.int .i64 t280, .int .i64 t281] 24 (0, 0)) (by (with_reducible repeat first|apply bn|apply bd|apply ba); exact BK284.out)) : gb305 ≠ gb284)); have n12_ := Aside0.mk ((by rw [hg]; exact Nat.ne_of_lt (blk_lt (g := gb285) (o := .cells #[.int .i64 t282, .int .i64 t283] 24 (0, 0)) (by (with_reducible repeat first|apply bn|apply bd|apply ba); exact BK285.out)) : gb285 ≠ gb305)); have n13_ := Aside0.mk ((by rw [hg]; exact Nat.ne_of_gt (blk_lt (g := gb285) (o := .cells #[.int .i64 t282, .int .i64 t283] 24 (0, 0)) (by (with_reducible repeat first|apply bn|apply bd|apply ba); exact BK285.out)) : gb305 ≠ gb285)); have n14_ := Aside0.mk ((by rw [hg]; exact Nat.ne_of_lt (blk_lt (g := gb289) (o := .cells #[.int .i64 t286, .int .i64 t287] 24 (0, 0)) (by (with_reducible repeat first|apply bn|apply bd|apply ba); exact BK289.out)) : gb289 ≠ gb305)); have n15_ := Aside0.mk ((by rw [hg]; exact Nat.ne_of_gt (blk_lt (g := gb289) (o := .cells #[.int .i64 t286, .int .i64 t287] 24 (0, 0)) (by (with_reducible repeat first|apply bn|apply bd|apply ba); exact BK289.out)) : gb305 ≠ gb289)); have n16_ := Aside0.mk ((by rw [hg]; exact Nat.ne_of_lt (blk_lt (g := gb293) (o := .cells #[.int .i64 t290, .int .i64 t291] 24 (0, 0)) (by (with_reducible repeat first|apply bn|apply bd|apply ba); exact BK293.out)) : gb293 ≠ gb305)); have n17_ := Aside0.mk ((by rw [hg]; exact Nat.ne_of_gt (blk_lt (g := gb293) (o := .cells #[.int .i64 t290, .int .i64 t291] 24 (0, 0)) (by (with_reducible repeat first|apply bn|apply bd|apply ba); exact BK293.out)) : gb305 ≠ gb293)); have n18_ := Aside0.mk ((by rw [hg]; exact Nat.ne_of_lt (blk_lt (g := gb297) (o := .cells #[.int .i64 t294, .int .i64 t295] 24 (0, 0)) (by (with_reducible repeat first|apply bn|apply bd|apply ba); exact BK297.out)) : gb297 ≠ gb305)); have n19_ := Aside0.mk ((by rw [hg]; exact Nat.ne_of_gt (blk_lt (g := gb297) (o := .cells #[.int .i64 t294, .int .i64 t295] 24 (0, 0)) (by (with_reducible repeat first|apply bn|apply bd|apply ba); exact BK297.out)) : gb305 ≠ gb297)); have n20_ := Aside0.mk ((by rw [hg]; exact Nat.ne_of_lt (blk_lt (g := gb301) (o := .cells #[.int .i64 t298, .int .i64 t299] 24 (0, 0)) (by (with_reducible repeat first|apply bn|apply bd|apply ba); exact BK301.out)) : gb301 ≠ gb305)); have n21_ := Aside0.mk ((by rw [hg]; exact Nat.ne_of_gt (blk_lt (g := gb301) (o := .cells #[.int .i64 t298, .int .i64 t299] 24 (0, 0)) (by (with_reducible repeat first|apply bn|apply bd|apply ba); exact BK301.out)) : gb305 ≠ gb301)); clear BK284; clear BK285; clear BK289; clear BK293; clear BK297; clear BK301; clear HB; have BK284 := n0_; have BK285 := n1_; have BK289 := n2_; have BK293 := n3_; have BK297 := n4_; have BK301 := n5_; have HB := n6_; have BK305 := n7_; have GW305 := n8_; have GE305 := n9_; have NB284_305 := n10_; have NB305_284 := n11_; have NB285_305 := n12_; have NB305_285 := n13_; have NB289_305 := n14_; have NB305_289 := n15_; have NB293_305 := n16_; have NB305_293 := n17_; have NB297_305 := n18_; have NB305_297 := n19_; have NB301_305 := n20_; have NB305_301 := n21_; clear n0_ n1_ n2_ n3_ n4_ n5_ n6_ n7_ n8_ n9_ n10_ n11_ n12_ n13_ n14_ n15_ n16_ n17_ n18_ n19_ n20_ n21_; clear hb hbox hg; have hnb73 := NB305_284.out; have hnc73 := NB284_305.out; have hnb74 := NB305_285.out; have hnc74 := NB285_305.out; have hnb75 := NB305_289.out; have hnc75 := NB289_305.out; have hnb76 := NB305_293.out; have hnc76 := NB293_305.out; have hnb77 := NB305_297.out; have hnc77 := NB297_305.out; have hnb78 := NB305_301.out; have hnc78 := NB301_305.out; have hcz79_0 : w72.cell? ⟨gb305, 0, none⟩ = some (.int .i64 0) := (blk_cell BK305.out 0).trans rfl; have hcz79_1 : w72.cell? ⟨gb305, 1, none⟩ = some (.int .i64 0) := (blk_cell BK305.out 1).trans rfl; have hfz79_0 := blk_frozen BK305.out 0; have hfz79_1 := blk_frozen BK305.out 1))
   (try simp only [Act.put, List.setIfInBounds_toArray, List.set])
   go_cut [97] (fun v97 wc => ∃ (kq : Nat) (x97_29 : Bool), v97 = .bool x97_29 ∧ Aside0 (laws_FnRatios.j0 kq l0 x97_29 t280 t281 t282 t283 = some r) ∧ Aside0 (kq ≤ k) ∧ Aside0 (wc.heap[gb284]? = some (.cells #[.int .i64 t280, .int .i64 t281] 24 (0, 0))) ∧ Aside0 (wc.heap[gb285]? = some (.cells #[.int .i64 t282, .int .i64 t283] 24 (0, 0))) ∧ Aside0 (wc.heap[gb289]? = some (.cells #[.int .i64 t286, .int .i64 t287] 24 (0, 0))) ∧ Aside0 (wc.heap[gb293]? = some (.cells #[.int .i64 t290, .int .i64 t291] 24 (0, 0))) ∧ Aside0 (wc.heap[gb297]? = some (.cells #[.int .i64 t294, .int .i64 t295] 24 (0, 0))) ∧ Aside0 (wc.heap[gb301]? = some (.cells #[.int .i64 t298, .int .i64 t299] 24 (0, 0))) ∧ Aside0 (wc.heap[gb305]? = some (.cells #[.int .i64 t302, .int .i64 t303] 24 (0, 0))) ∧ Aside0 (Below w.heap.size w wc))
   case first =>
    have H := HC30.out
    clear HC30
    by_cases c80 : (t288 != t296) = true
    ·rw [if_pos c80] at H
     have c80b0 : (t288 != t296) = true := c80
     (try (have c80b1 : decide (t288 = t296) = false := by simpa using c80))
     (try (have c80b2 : (t288 == t296) = false := by simpa using c80))
     (try (have c80b3 : ¬ (t288 = t296) := by simpa using c80))
     clear c80
     (first | rw [c80b0] | (simp only [i64_w, i32_w]; rw [c80b0]) | skip)
     have H' := Aside0.mk H
     clear H
     go_wp2
     go_meet
     case rel => exact ⟨_, (true), (by first | rfl | (simp; done) | (simp [*]; done)), H', ⟨by first | omega | exact Nat.le_refl _⟩, ⟨by (with_reducible repeat first|apply bn|apply bd|apply ba); refine blk_far ?_ NB284_305.out _; (with_reducible repeat first|apply bn|apply bd|apply ba); refine blk_far ?_ NB284_305.out _; (with_reducible repeat first|apply bn|apply bd|apply ba); exact BK284.out⟩, ⟨by (with_reducible repeat first|apply bn|apply bd|apply ba); refine blk_far ?_ NB285_305.out _; (with_reducible repeat first|apply bn|apply bd|apply ba); refine blk_far ?_ NB285_305.out _; (with_reducible repeat first|apply bn|apply bd|apply ba); exact BK285.out⟩, ⟨by (with_reducible repeat first|apply bn|apply bd|apply ba); refine blk_far ?_ NB289_305.out _; (with_reducible repeat first|apply bn|apply bd|apply ba); refine blk_far ?_ NB289_305.out _; (with_reducible repeat first|apply bn|apply bd|apply ba); exact BK289.out⟩, ⟨by (with_reducible repeat first|apply bn|apply bd|apply ba); refine blk_far ?_ NB293_305.out _; (with_reducible repeat first|apply bn|apply bd|apply ba); refine blk_far ?_ NB293_305.out _; (with_reducible repeat first|apply bn|apply bd|apply ba); exact BK293.out⟩, ⟨by (with_reducible repeat first|apply bn|apply bd|apply ba); refine blk_far ?_ NB297_305.out _; (with_reducible repeat first|apply bn|apply bd|apply ba); refine blk_far ?_ NB297_305.out _; (with_reducible repeat first|apply bn|apply bd|apply ba); exact BK297.out⟩, ⟨by (with_reducible repeat first|apply bn|apply bd|apply ba); refine blk_far ?_ NB301_305.out _; (with_reducible repeat first|apply bn|apply bd|apply ba); refine blk_far ?_ NB301_305.out _; (with_reducible repeat first|apply bn|apply bd|apply ba); exact BK301.out⟩, ⟨by (with_reducible repeat first|apply bn|apply bd|apply ba); refine blk_put (cs := #[.int .i64 t302, .int .i64 0]) ?_ 1 _ rfl; (with_reducible repeat first|apply bn|apply bd|apply ba); refine blk_put (cs := #[.int .i64 0, .int .i64 0]) ?_ 0 _ rfl; (with_reducible repeat first|apply bn|apply bd|apply ba); exact BK305.out⟩, ⟨by repeat (first | (with_reducible first | exact HB.out | apply below_alloc | apply pw_below_drewN | apply below_drew1 | refine below_set ?_ GE284.out | refine below_set ?_ GE285.out | refine below_set ?_ GE289.out | refine below_set ?_ GE293.out | refine below_set ?_ GE297.out | refine below_set ?_ GE301.out | refine below_set ?_ GE305.out) | exact HB.out)⟩⟩
    ·rw [if_neg c80] at H
     have c80b0 : (t288 != t296) = false := by simpa using c80
     (try (have c80b1 : decide (t288 = t296) = true := by simpa using c80))
     (try (have c80b2 : (t288 == t296) = true := by simpa using c80))
     clear c80
     (first | rw [c80b0] | (simp only [i64_w, i32_w]; rw [c80b0]) | skip)
     by_cases c81 : (!(t286 == t294) || (!(t287 == t295))) = true
     ·rw [if_pos c81] at H
      have c81b0 : (!(t286 == t294) || (!(t287 == t295))) = true := c81
      clear c81
      have H' := Aside0.mk H
      clear H
      have hnb82 := NB289_284.out
      have hnc82 := NB284_289.out
      have hnb83 := NB289_285.out
      have hnc83 := NB285_289.out
      have hnb84 := NB289_293.out
      have hnc84 := NB293_289.out
      have hnb85 := NB289_297.out
      have hnc85 := NB297_289.out
      have hnb86 := NB289_301.out
      have hnc86 := NB301_289.out
      have hnb87 := NB289_305.out
      have hnc87 := NB305_289.out
      have hcz88_0 : w72.cell? ⟨gb289, 0, none⟩ = some (.int .i64 t286) := (blk_cell BK289.out 0).trans rfl
      have hcz88_1 : w72.cell? ⟨gb289, 1, none⟩ = some (.int .i64 t287) := (blk_cell BK289.out 1).trans rfl
      have hfz88_0 := blk_frozen BK289.out 0
      have hfz88_1 := blk_frozen BK289.out 1
      have hnb89 := NB297_284.out
      have hnc89 := NB284_297.out
      have hnb90 := NB297_285.out
      have hnc90 := NB285_297.out
      have hnb91 := NB297_293.out
      have hnc91 := NB293_297.out
      have hnb92 := NB297_301.out
      have hnc92 := NB301_297.out
      have hnb93 := NB297_305.out
      have hnc93 := NB305_297.out
      have hcz94_0 : w72.cell? ⟨gb297, 0, none⟩ = some (.int .i64 t294) := (blk_cell BK297.out 0).trans rfl
      have hcz94_1 : w72.cell? ⟨gb297, 1, none⟩ = some (.int .i64 t295) := (blk_cell BK297.out 1).trans rfl
      have hfz94_0 := blk_frozen BK297.out 0
      have hfz94_1 := blk_frozen BK297.out 1
      go_wp2
      go_meet
      case rel => exact ⟨_, (true), (by first | rfl | (simp; done) | (simp [*]; done)), H', ⟨by first | omega | exact Nat.le_refl _⟩, ⟨by (with_reducible repeat first|apply bn|apply bd|apply ba); refine blk_far ?_ NB284_305.out _; (with_reducible repeat first|apply bn|apply bd|apply ba); refine blk_far ?_ NB284_305.out _; (with_reducible repeat first|apply bn|apply bd|apply ba); exact BK284.out⟩, ⟨by (with_reducible repeat first|apply bn|apply bd|apply ba); refine blk_far ?_ NB285_305.out _; (with_reducible repeat first|apply bn|apply bd|apply ba); refine blk_far ?_ NB285_305.out _; (with_reducible repeat first|apply bn|apply bd|apply ba); exact BK285.out⟩, ⟨by (with_reducible repeat first|apply bn|apply bd|apply ba); refine blk_far ?_ NB289_305.out _; (with_reducible repeat first|apply bn|apply bd|apply ba); refine blk_far ?_ NB289_305.out _; (with_reducible repeat first|apply bn|apply bd|apply ba); exact BK289.out⟩, ⟨by (with_reducible repeat first|apply bn|apply bd|apply ba); refine blk_far ?_ NB293_305.out _; (with_reducible repeat first|apply bn|apply bd|apply ba); refine blk_far ?_ NB293_305.out _; (with_reducible repeat first|apply bn|apply bd|apply ba); exact BK293.out⟩, ⟨by (with_reducible repeat first|apply bn|apply bd|apply ba); refine blk_far ?_ NB297_305.out _; (with_reducible repeat first|apply bn|apply bd|apply ba); refine blk_far ?_ NB297_305.out _; (with_reducible repeat first|apply bn|apply bd|apply ba); exact BK297.out⟩, ⟨by (with_reducible repeat first|apply bn|apply bd|apply ba); refine blk_far ?_ NB301_305.out _; (with_reducible repeat first|apply bn|apply bd|apply ba); refine blk_far ?_ NB301_305.out _; (with_reducible repeat first|apply bn|apply bd|apply ba); exact BK301.out⟩, ⟨by (with_reducible repeat first|apply bn|apply bd|apply ba); refine blk_put (cs := #[.int .i64 t302, .int .i64 0]) ?_ 1 _ rfl; (with_reducible repeat first|apply bn|apply bd|apply ba); refine blk_put (cs := #[.int .i64 0, .int .i64 0]) ?_ 0 _ rfl; (with_reducible repeat first|apply bn|apply bd|apply ba); exact BK305.out⟩, ⟨by repeat (first | (with_reducible first | exact HB.out | apply below_alloc | apply pw_below_drewN | apply below_drew1 | refine below_set ?_ GE284.out | refine below_set ?_ GE285.out | refine below_set ?_ GE289.out | refine below_set ?_ GE293.out | refine below_set ?_ GE297.out | refine below_set ?_ GE301.out | refine below_set ?_ GE305.out) | exact HB.out)⟩⟩
     ·rw [if_neg c81] at H
      have c81b0 : (!(t286 == t294) || (!(t287 == t295))) = false := by simpa using c81
      clear c81
      by_cases c95 : (t300 != t304) = true
      ·rw [if_pos c95] at H
       have c95b0 : (t300 != t304) = true := c95
       (try (have c95b1 : decide (t300 = t304) = false := by simpa using c95))
       (try (have c95b2 : (t300 == t304) = false := by simpa using c95))
       (try (have c95b3 : ¬ (t300 = t304) := by simpa using c95))
       clear c95
       have H' := Aside0.mk H
       clear H
       have hnb96 := NB289_284.out
       have hnc96 := NB284_289.out
       have hnb97 := NB289_285.out
       have hnc97 := NB285_289.out
       have hnb98 := NB289_293.out
       have hnc98 := NB293_289.out
       have hnb99 := NB289_297.out
       have hnc99 := NB297_289.out
       have hnb100 := NB289_301.out
       have hnc100 := NB301_289.out
       have hnb101 := NB289_305.out
       have hnc101 := NB305_289.out
       have hcz102_0 : w72.cell? ⟨gb289, 0, none⟩ = some (.int .i64 t286) := (blk_cell BK289.out 0).trans rfl
       have hcz102_1 : w72.cell? ⟨gb289, 1, none⟩ = some (.int .i64 t287) := (blk_cell BK289.out 1).trans rfl
       have hfz102_0 := blk_frozen BK289.out 0
       have hfz102_1 := blk_frozen BK289.out 1
       have hnb103 := NB297_284.out
       have hnc103 := NB284_297.out
       have hnb104 := NB297_285.out
       have hnc104 := NB285_297.out
       have hnb105 := NB297_293.out
       have hnc105 := NB293_297.out
       have hnb106 := NB297_301.out
       have hnc106 := NB301_297.out
       have hnb107 := NB297_305.out
       have hnc107 := NB305_297.out
       have hcz108_0 : w72.cell? ⟨gb297, 0, none⟩ = some (.int .i64 t294) := (blk_cell BK297.out 0).trans rfl
       have hcz108_1 : w72.cell? ⟨gb297, 1, none⟩ = some (.int .i64 t295) := (blk_cell BK297.out 1).trans rfl
       have hfz108_0 := blk_frozen BK297.out 0
       have hfz108_1 := blk_frozen BK297.out 1
       go_wp2
       go_meet
       case rel => exact ⟨_, (true), (by first | rfl | (simp; done) | (simp [*]; done)), H', ⟨by first | omega | exact Nat.le_refl _⟩, ⟨by (with_reducible repeat first|apply bn|apply bd|apply ba); refine blk_far ?_ NB284_305.out _; (with_reducible repeat first|apply bn|apply bd|apply ba); refine blk_far ?_ NB284_305.out _; (with_reducible repeat first|apply bn|apply bd|apply ba); exact BK284.out⟩, ⟨by (with_reducible repeat first|apply bn|apply bd|apply ba); refine blk_far ?_ NB285_305.out _; (with_reducible repeat first|apply bn|apply bd|apply ba); refine blk_far ?_ NB285_305.out _; (with_reducible repeat first|apply bn|apply bd|apply ba); exact BK285.out⟩, ⟨by (with_reducible repeat first|apply bn|apply bd|apply ba); refine blk_far ?_ NB289_305.out _; (with_reducible repeat first|apply bn|apply bd|apply ba); refine blk_far ?_ NB289_305.out _; (with_reducible repeat first|apply bn|apply bd|apply ba); exact BK289.out⟩, ⟨by (with_reducible repeat first|apply bn|apply bd|apply ba); refine blk_far ?_ NB293_305.out _; (with_reducible repeat first|apply bn|apply bd|apply ba); refine blk_far ?_ NB293_305.out _; (with_reducible repeat first|apply bn|apply bd|apply ba); exact BK293.out⟩, ⟨by (with_reducible repeat first|apply bn|apply bd|apply ba); refine blk_far ?_ NB297_305.out _; (with_reducible repeat first|apply bn|apply bd|apply ba); refine blk_far ?_ NB297_305.out _; (with_reducible repeat first|apply bn|apply bd|apply ba); exact BK297.out⟩, ⟨by (with_reducible repeat first|apply bn|apply bd|apply ba); refine blk_far ?_ NB301_305.out _; (with_reducible repeat first|apply bn|apply bd|apply ba); refine blk_far ?_ NB301_305.out _; (with_reducible repeat first|apply bn|apply bd|apply ba); exact BK301.out⟩, ⟨by (with_reducible repeat first|apply bn|apply bd|apply ba); refine blk_put (cs := #[.int .i64 t302, .int .i64 0]) ?_ 1 _ rfl; (with_reducible repeat first|apply bn|apply bd|apply ba); refine blk_put (cs := #[.int .i64 0, .int .i64 0]) ?_ 0 _ rfl; (with_reducible repeat first|apply bn|apply bd|apply ba); exact BK305.out⟩, ⟨by repeat (first | (with_reducible first | exact HB.out | apply below_alloc | apply pw_below_drewN | apply below_drew1 | refine below_set ?_ GE284.out | refine below_set ?_ GE285.out | refine below_set ?_ GE289.out | refine below_set ?_ GE293.out | refine below_set ?_ GE297.out | refine below_set ?_ GE301.out | refine below_set ?_ GE305.out) | exact HB.out)⟩⟩
      ·rw [if_neg c95] at H
       have c95b0 : (t300 != t304) = false := by simpa using c95
       (try (have c95b1 : decide (t300 = t304) = true := by simpa using c95))
       (try (have c95b2 : (t300 == t304) = true := by simpa using c95))
       clear c95
       by_cases c109 : (!(t298 == t302) || (!(t299 == t303))) = true
       ·rw [if_pos c109] at H
        have c109b0 : (!(t298 == t302) || (!(t299 == t303))) = true := c109
        clear c109
        have H' := Aside0.mk H
        clear H
        have hnb110 := NB289_284.out
        have hnc110 := NB284_289.out
        have hnb111 := NB289_285.out
        have hnc111 := NB285_289.out
        have hnb112 := NB289_293.out
        have hnc112 := NB293_289.out
        have hnb113 := NB289_297.out
        have hnc113 := NB297_289.out
        have hnb114 := NB289_301.out
        have hnc114 := NB301_289.out
        have hnb115 := NB289_305.out
        have hnc115 := NB305_289.out
        have hcz116_0 : w72.cell? ⟨gb289, 0, none⟩ = some (.int .i64 t286) := (blk_cell BK289.out 0).trans rfl
        have hcz116_1 : w72.cell? ⟨gb289, 1, none⟩ = some (.int .i64 t287) := (blk_cell BK289.out 1).trans rfl
        have hfz116_0 := blk_frozen BK289.out 0
        have hfz116_1 := blk_frozen BK289.out 1
        have hnb117 := NB297_284.out
        have hnc117 := NB284_297.out
        have hnb118 := NB297_285.out
        have hnc118 := NB285_297.out
        have hnb119 := NB297_293.out
        have hnc119 := NB293_297.out
        have hnb120 := NB297_301.out
        have hnc120 := NB301_297.out
        have hnb121 := NB297_305.out
        have hnc121 := NB305_297.out
        have hcz122_0 : w72.cell? ⟨gb297, 0, none⟩ = some (.int .i64 t294) := (blk_cell BK297.out 0).trans rfl
        have hcz122_1 : w72.cell? ⟨gb297, 1, none⟩ = some (.int .i64 t295) := (blk_cell BK297.out 1).trans rfl
        have hfz122_0 := blk_frozen BK297.out 0
        have hfz122_1 := blk_frozen BK297.out 1
        have hnb123 := NB301_284.out
        have hnc123 := NB284_301.out
        have hnb124 := NB301_285.out
        have hnc124 := NB285_301.out
        have hnb125 := NB301_293.out
        have hnc125 := NB293_301.out
        have hnb126 := NB301_305.out
        have hnc126 := NB305_301.out
        have hcz127_0 : w72.cell? ⟨gb301, 0, none⟩ = some (.int .i64 t298) := (blk_cell BK301.out 0).trans rfl
        have hcz127_1 : w72.cell? ⟨gb301, 1, none⟩ = some (.int .i64 t299) := (blk_cell BK301.out 1).trans rfl
        have hfz127_0 := blk_frozen BK301.out 0
        have hfz127_1 := blk_frozen BK301.out 1
        have hnb128 := NB305_284.out
        have hnc128 := NB284_305.out
        have hnb129 := NB305_285.out
        have hnc129 := NB285_305.out
        have hnb130 := NB305_293.out
        have hnc130 := NB293_305.out
        have hcz131_0 : w72.cell? ⟨gb305, 0, none⟩ = some (.int .i64 0) := (blk_cell BK305.out 0).trans rfl
        have hcz131_1 : w72.cell? ⟨gb305, 1, none⟩ = some (.int .i64 0) := (blk_cell BK305.out 1).trans rfl
        have hfz131_0 := blk_frozen BK305.out 0
        have hfz131_1 := blk_frozen BK305.out 1
        go_wp2
        go_meet
        case rel => exact ⟨_, (true), (by first | rfl | (simp; done) | (simp [*]; done)), H', ⟨by first | omega | exact Nat.le_refl _⟩, ⟨by (with_reducible repeat first|apply bn|apply bd|apply ba); refine blk_far ?_ NB284_305.out _; (with_reducible repeat first|apply bn|apply bd|apply ba); refine blk_far ?_ NB284_305.out _; (with_reducible repeat first|apply bn|apply bd|apply ba); exact BK284.out⟩, ⟨by (with_reducible repeat first|apply bn|apply bd|apply ba); refine blk_far ?_ NB285_305.out _; (with_reducible repeat first|apply bn|apply bd|apply ba); refine blk_far ?_ NB285_305.out _; (with_reducible repeat first|apply bn|apply bd|apply ba); exact BK285.out⟩, ⟨by (with_reducible repeat first|apply bn|apply bd|apply ba); refine blk_far ?_ NB289_305.out _; (with_reducible repeat first|apply bn|apply bd|apply ba); refine blk_far ?_ NB289_305.out _; (with_reducible repeat first|apply bn|apply bd|apply ba); exact BK289.out⟩, ⟨by (with_reducible repeat first|apply bn|apply bd|apply ba); refine blk_far ?_ NB293_305.out _; (with_reducible repeat first|apply bn|apply bd|apply ba); refine blk_far ?_ NB293_305.out _; (with_reducible repeat first|apply bn|apply bd|apply ba); exact BK293.out⟩, ⟨by (with_reducible repeat first|apply bn|apply bd|apply ba); refine blk_far ?_ NB297_305.out _; (with_reducible repeat first|apply bn|apply bd|apply ba); refine blk_far ?_ NB297_305.out _; (with_reducible repeat first|apply bn|apply bd|apply ba); exact BK297.out⟩, ⟨by (with_reducible repeat first|apply bn|apply bd|apply ba); refine blk_far ?_ NB301_305.out _; (with_reducible repeat first|apply bn|apply bd|apply ba); refine blk_far ?_ NB301_305.out _; (with_reducible repeat first|apply bn|apply bd|apply ba); exact BK301.out⟩, ⟨by (with_reducible repeat first|apply bn|apply bd|apply ba); refine blk_put (cs := #[.int .i64 t302, .int .i64 0]) ?_ 1 _ rfl; (with_reducible repeat first|apply bn|apply bd|apply ba); refine blk_put (cs := #[.int .i64 0, .int .i64 0]) ?_ 0 _ rfl; (with_reducible repeat first|apply bn|apply bd|apply ba); exact BK305.out⟩, ⟨by repeat (first | (with_reducible first | exact HB.out | apply below_alloc | apply pw_below_drewN | apply below_drew1 | refine below_set ?_ GE284.out | refine below_set ?_ GE285.out | refine below_set ?_ GE289.out | refine below_set ?_ GE293.out | refine below_set ?_ GE297.out | refine below_set ?_ GE301.out | refine below_set ?_ GE305.out) | exact HB.out)⟩⟩
       ·rw [if_neg c109] at H
        have c109b0 : (!(t298 == t302) || (!(t299 == t303))) = false := by simpa using c109
        clear c109
        by_cases c132 : t288 = true
        ·subst c132
         have H1 : ((impl_IsRatio.f k t286 t287).bind fun t306 => (if t306 = true then (if t300 = true then ((impl_IsRatio.f k t298 t299).bind fun t307 => (laws_FnRatios.j0 k l0 (!t307) t280 t281 t282 t283)) else (laws_FnRatios.j0 k l0 false t280 t281 t282 t283)) else (laws_FnRatios.j0 k l0 true t280 t281 t282 t283))) = some r := by rw [if_pos rfl] at H; exact H
         clear H
         have H := H1
         clear H1
         replace H := Option.bind_eq_some_iff.mp H
         obtain ⟨t306, A1330, H⟩ := H
         replace H : (if t306 = true then (if t300 = true then ((impl_IsRatio.f k t298 t299).bind fun t307 => (laws_FnRatios.j0 k l0 (!t307) t280 t281 t282 t283)) else (laws_FnRatios.j0 k l0 false t280 t281 t282 t283)) else (laws_FnRatios.j0 k l0 true t280 t281 t282 t283)) = some r := H
         have A133 := Aside0.mk A1330
         clear A1330
         by_cases c134 : t306 = true
         ·subst c134
          have H1 : (if t300 = true then ((impl_IsRatio.f k t298 t299).bind fun t307 => (laws_FnRatios.j0 k l0 (!t307) t280 t281 t282 t283)) else (laws_FnRatios.j0 k l0 false t280 t281 t282 t283)) = some r := by rw [if_pos rfl] at H; exact H
          clear H
          have H := H1
          clear H1
          by_cases c135 : t300 = true
          ·subst c135
           have H1 : ((impl_IsRatio.f k t298 t299).bind fun t307 => (laws_FnRatios.j0 k l0 (!t307) t280 t281 t282 t283)) = some r := by rw [if_pos rfl] at H; exact H
           clear H
           have H := H1
           clear H1
           replace H := Option.bind_eq_some_iff.mp H
           obtain ⟨t307, A1360, H⟩ := H
           replace H : (laws_FnRatios.j0 k l0 (!t307) t280 t281 t282 t283) = some r := H
           have A136 := Aside0.mk A1360
           clear A1360
           have H' := Aside0.mk H
           clear H
           have hnb137 := NB289_284.out
           have hnc137 := NB284_289.out
           have hnb138 := NB289_285.out
           have hnc138 := NB285_289.out
           have hnb139 := NB289_293.out
           have hnc139 := NB293_289.out
           have hnb140 := NB289_297.out
           have hnc140 := NB297_289.out
           have hnb141 := NB289_301.out
           have hnc141 := NB301_289.out
           have hnb142 := NB289_305.out
           have hnc142 := NB305_289.out
           have hcz143_0 : w72.cell? ⟨gb289, 0, none⟩ = some (.int .i64 t286) := (blk_cell BK289.out 0).trans rfl
           have hcz143_1 : w72.cell? ⟨gb289, 1, none⟩ = some (.int .i64 t287) := (blk_cell BK289.out 1).trans rfl
           have hfz143_0 := blk_frozen BK289.out 0
           have hfz143_1 := blk_frozen BK289.out 1
           have hnb144 := NB297_284.out
           have hnc144 := NB284_297.out
           have hnb145 := NB297_285.out
           have hnc145 := NB285_297.out
           have hnb146 := NB297_293.out
           have hnc146 := NB293_297.out
           have hnb147 := NB297_301.out
           have hnc147 := NB301_297.out
           have hnb148 := NB297_305.out
           have hnc148 := NB305_297.out
           have hcz149_0 : w72.cell? ⟨gb297, 0, none⟩ = some (.int .i64 t294) := (blk_cell BK297.out 0).trans rfl
           have hcz149_1 : w72.cell? ⟨gb297, 1, none⟩ = some (.int .i64 t295) := (blk_cell BK297.out 1).trans rfl
           have hfz149_0 := blk_frozen BK297.out 0
           have hfz149_1 := blk_frozen BK297.out 1
           have hnb150 := NB301_284.out
           have hnc150 := NB284_301.out
           have hnb151 := NB301_285.out
           have hnc151 := NB285_301.out
           have hnb152 := NB301_293.out
           have hnc152 := NB293_301.out
           have hnb153 := NB301_305.out
           have hnc153 := NB305_301.out
           have hcz154_0 : w72.cell? ⟨gb301, 0, none⟩ = some (.int .i64 t298) := (blk_cell BK301.out 0).trans rfl
           have hcz154_1 : w72.cell? ⟨gb301, 1, none⟩ = some (.int .i64 t299) := (blk_cell BK301.out 1).trans rfl
           have hfz154_0 := blk_frozen BK301.out 0
           have hfz154_1 := blk_frozen BK301.out 1
           have hnb155 := NB305_284.out
           have hnc155 := NB284_305.out
           have hnb156 := NB305_285.out
           have hnc156 := NB285_305.out
           have hnb157 := NB305_293.out
           have hnc157 := NB293_305.out
           have hcz158_0 : w72.cell? ⟨gb305, 0, none⟩ = some (.int .i64 0) := (blk_cell BK305.out 0).trans rfl
           have hcz158_1 : w72.cell? ⟨gb305, 1, none⟩ = some (.int .i64 0) := (blk_cell BK305.out 1).trans rfl
           have hfz158_0 := blk_frozen BK305.out 0
           have hfz158_1 := blk_frozen BK305.out 1
           go_wp2_with (first | (go_at_call 61; (with_reducible refine (impl_IsRatio.calls k t286 t287 true _ A133.out).mono ?_); rintro e w159 ⟨rfl, hb⟩; have n0_ := Aside0.mk (blk_below (g := gb284) (o := .cells #[.int .i64 t280, .int .i64 t281] 24 (0, 0)) (by (with_reducible repeat first|apply bn|apply bd|apply ba); refine blk_far ?_ NB284_305.out _; (with_reducible repeat first|apply bn|apply bd|apply ba); refine blk_far ?_ NB284_305.out _; (with_reducible repeat first|apply bn|apply bd|apply ba); exact BK284.out) hb); have n1_ := Aside0.mk (blk_below (g := gb285) (o := .cells #[.int .i64 t282, .int .i64 t283] 24 (0, 0)) (by (with_reducible repeat first|apply bn|apply bd|apply ba); refine blk_far ?_ NB285_305.out _; (with_reducible repeat first|apply bn|apply bd|apply ba); refine blk_far ?_ NB285_305.out _; (with_reducible repeat first|apply bn|apply bd|apply ba); exact BK285.out) hb); have n2_ := Aside0.mk (blk_below (g := gb289) (o := .cells #[.int .i64 t286, .int .i64 t287] 24 (0, 0)) (by (with_reducible repeat first|apply bn|apply bd|apply ba); refine blk_far ?_ NB289_305.out _; (with_reducible repeat first|apply bn|apply bd|apply ba); refine blk_far ?_ NB289_305.out _; (with_reducible repeat first|apply bn|apply bd|apply ba); exact BK289.out) hb); have n3_ := Aside0.mk (blk_below (g := gb293) (o := .cells #[.int .i64 t290, .int .i64 t291] 24 (0, 0)) (by (with_reducible repeat first|apply bn|apply bd|apply ba); refine blk_far ?_ NB293_305.out _; (with_reducible repeat first|apply bn|apply bd|apply ba); refine blk_far ?_ NB293_305.out _; (with_reducible repeat first|apply bn|apply bd|apply ba); exact BK293.out) hb); have n4_ := Aside0.mk (blk_below (g := gb297) (o := .cells #[.int .i64 t294, .int .i64 t295] 24 (0, 0)) (by (with_reducible repeat first|apply bn|apply bd|apply ba); refine blk_far ?_ NB297_305.out _; (with_reducible repeat first|apply bn|apply bd|apply ba); refine blk_far ?_ NB297_305.out _; (with_reducible repeat first|apply bn|apply bd|apply ba); exact BK297.out) hb); have n5_ := Aside0.mk (blk_below (g := gb301) (o := .cells #[.int .i64 t298, .int .i64 t299] 24 (0, 0)) (by (with_reducible repeat first|apply bn|apply bd|apply ba); refine blk_far ?_ NB301_305.out _; (with_reducible repeat first|apply bn|apply bd|apply ba); refine blk_far ?_ NB301_305.out _; (with_reducible repeat first|apply bn|apply bd|apply ba); exact BK301.out) hb); have n6_ := Aside0.mk (blk_below (g := gb305) (o := .cells #[.int .i64 t302, .int .i64 t303] 24 (0, 0)) (by (with_reducible repeat first|apply bn|apply bd|apply ba); refine blk_put (cs := #[.int .i64 t302, .int .i64 0]) ?_ 1 _ rfl; (with_reducible repeat first|apply bn|apply bd|apply ba); refine blk_put (cs := #[.int .i64 0, .int .i64 0]) ?_ 0 _ rfl; (with_reducible repeat first|apply bn|apply bd|apply ba); exact BK305.out) hb); have n7_ := Aside0.mk (below_step (by repeat first|(with_reducible first|exact HB.out|apply la|apply ln|apply ld|refine ls ?_ (Aside0.out (by assumption)))|exact HB.out) hb); clear BK284; clear BK285; clear BK289; clear BK293; clear BK297; clear BK301; clear BK305; clear HB; have BK284 := n0_; have BK285 := n1_; have BK289 := n2_; have BK293 := n3_; have BK297 := n4_; have BK301 := n5_; have BK305 := n6_; have HB := n7_; clear n0_ n1_ n2_ n3_ n4_ n5_ n6_ n7_; (try clear hb); have hcz160_0 : w159.cell? ⟨gb301, 0, none⟩ = some (.int .i64 t298) := (blk_cell BK301.out 0).trans rfl; have hcz160_1 : w159.cell? ⟨gb301, 1, none⟩ = some (.int .i64 t299) := (blk_cell BK301.out 1).trans rfl; have hfz160_0 := blk_frozen BK301.out 0; have hfz160_1 := blk_frozen BK301.out 1) | (go_at_call 61; (with_reducible refine (impl_IsRatio.calls k t298 t299 t307 _ A136.out).mono ?_); rintro e w161 ⟨rfl, hb⟩; have n0_ := Aside0.mk (blk_below (g := gb284) (o := .cells #[.int .i64 t280, .int .i64 t281] 24 (0, 0)) (by (with_reducible repeat first|apply bn|apply bd|apply ba); exact BK284.out) hb); have n1_ := Aside0.mk (blk_below (g := gb285) (o := .cells #[.int .i64 t282, .int .i64 t283] 24 (0, 0)) (by (with_reducible repeat first|apply bn|apply bd|apply ba); exact BK285.out) hb); have n2_ := Aside0.mk (blk_below (g := gb289) (o := .cells #[.int .i64 t286, .int .i64 t287] 24 (0, 0)) (by (with_reducible repeat first|apply bn|apply bd|apply ba); exact BK289.out) hb); have n3_ := Aside0.mk (blk_below (g := gb293) (o := .cells #[.int .i64 t290, .int .i64 t291] 24 (0, 0)) (by (with_reducible repeat first|apply bn|apply bd|apply ba); exact BK293.out) hb); have n4_ := Aside0.mk (blk_below (g := gb297) (o := .cells #[.int .i64 t294, .int .i64 t295] 24 (0, 0)) (by (with_reducible repeat first|apply bn|apply bd|apply ba); exact BK297.out) hb); have n5_ := Aside0.mk (blk_below (g := gb301) (o := .cells #[.int .i64 t298, .int .i64 t299] 24 (0, 0)) (by (with_reducible repeat first|apply bn|apply bd|apply ba); exact BK301.out) hb); have n6_ := Aside0.mk (blk_below (g := gb305) (o := .cells #[.int .i64 t302, .int .i64 t303] 24 (0, 0)) (by (with_reducible repeat first|apply bn|apply bd|apply ba); exact BK305.out) hb); have n7_ := Aside0.mk (below_step (by repeat first|(with_reducible first|exact HB.out|apply la|apply ln|apply ld|refine ls ?_ (Aside0.out (by assumption)))|exact HB.out) hb); clear BK284; clear BK285; clear BK289; clear BK293; clear BK297; clear BK301; clear BK305; clear HB; have BK284 := n0_; have BK285 := n1_; have BK289 := n2_; have BK293 := n3_; have BK297 := n4_; have BK301 := n5_; have BK305 := n6_; have HB := n7_; clear n0_ n1_ n2_ n3_ n4_ n5_ n6_ n7_; (try clear hb)))
           go_meet
           case rel => exact ⟨_, (!t307), (by first | rfl | (simp; done) | (simp [*]; done)), H', ⟨by first | omega | exact Nat.le_refl _⟩, ⟨by (with_reducible repeat first|apply bn|apply bd|apply ba); exact BK284.out⟩, ⟨by (with_reducible repeat first|apply bn|apply bd|apply ba); exact BK285.out⟩, ⟨by (with_reducible repeat first|apply bn|apply bd|apply ba); exact BK289.out⟩, ⟨by (with_reducible repeat first|apply bn|apply bd|apply ba); exact BK293.out⟩, ⟨by (with_reducible repeat first|apply bn|apply bd|apply ba); exact BK297.out⟩, ⟨by (with_reducible repeat first|apply bn|apply bd|apply ba); exact BK301.out⟩, ⟨by (with_reducible repeat first|apply bn|apply bd|apply ba); exact BK305.out⟩, ⟨by repeat (first | (with_reducible first | exact HB.out | apply below_alloc | apply pw_below_drewN | apply below_drew1 | refine below_set ?_ GE284.out | refine below_set ?_ GE285.out | refine below_set ?_ GE289.out | refine below_set ?_ GE293.out | refine below_set ?_ GE297.out | refine below_set ?_ GE301.out | refine below_set ?_ GE305.out) | exact HB.out)⟩⟩
          ·replace c135 := Bool.eq_false_iff.mpr c135
           subst c135
           have H1 : (laws_FnRatios.j0 k l0 false t280 t281 t282 t283) = some r := by rw [if_neg (show ¬ (false = true) by decide)] at H; exact H
           clear H
           have H := H1
           clear H1
           have H' := Aside0.mk H
           clear H
           have hnb162 := NB289_284.out
           have hnc162 := NB284_289.out
           have hnb163 := NB289_285.out
           have hnc163 := NB285_289.out
           have hnb164 := NB289_293.out
           have hnc164 := NB293_289.out
           have hnb165 := NB289_297.out
           have hnc165 := NB297_289.out
           have hnb166 := NB289_301.out
           have hnc166 := NB301_289.out
           have hnb167 := NB289_305.out
           have hnc167 := NB305_289.out
           have hcz168_0 : w72.cell? ⟨gb289, 0, none⟩ = some (.int .i64 t286) := (blk_cell BK289.out 0).trans rfl
           have hcz168_1 : w72.cell? ⟨gb289, 1, none⟩ = some (.int .i64 t287) := (blk_cell BK289.out 1).trans rfl
           have hfz168_0 := blk_frozen BK289.out 0
           have hfz168_1 := blk_frozen BK289.out 1
           have hnb169 := NB297_284.out
           have hnc169 := NB284_297.out
           have hnb170 := NB297_285.out
           have hnc170 := NB285_297.out
           have hnb171 := NB297_293.out
           have hnc171 := NB293_297.out
           have hnb172 := NB297_301.out
           have hnc172 := NB301_297.out
           have hnb173 := NB297_305.out
           have hnc173 := NB305_297.out
           have hcz174_0 : w72.cell? ⟨gb297, 0, none⟩ = some (.int .i64 t294) := (blk_cell BK297.out 0).trans rfl
           have hcz174_1 : w72.cell? ⟨gb297, 1, none⟩ = some (.int .i64 t295) := (blk_cell BK297.out 1).trans rfl
           have hfz174_0 := blk_frozen BK297.out 0
           have hfz174_1 := blk_frozen BK297.out 1
           have hnb175 := NB301_284.out
           have hnc175 := NB284_301.out
           have hnb176 := NB301_285.out
           have hnc176 := NB285_301.out
           have hnb177 := NB301_293.out
           have hnc177 := NB293_301.out
           have hnb178 := NB301_305.out
           have hnc178 := NB305_301.out
           have hcz179_0 : w72.cell? ⟨gb301, 0, none⟩ = some (.int .i64 t298) := (blk_cell BK301.out 0).trans rfl
           have hcz179_1 : w72.cell? ⟨gb301, 1, none⟩ = some (.int .i64 t299) := (blk_cell BK301.out 1).trans rfl
           have hfz179_0 := blk_frozen BK301.out 0
           have hfz179_1 := blk_frozen BK301.out 1
           have hnb180 := NB305_284.out
           have hnc180 := NB284_305.out
           have hnb181 := NB305_285.out
           have hnc181 := NB285_305.out
           have hnb182 := NB305_293.out
           have hnc182 := NB293_305.out
           have hcz183_0 : w72.cell? ⟨gb305, 0, none⟩ = some (.int .i64 0) := (blk_cell BK305.out 0).trans rfl
           have hcz183_1 : w72.cell? ⟨gb305, 1, none⟩ = some (.int .i64 0) := (blk_cell BK305.out 1).trans rfl
           have hfz183_0 := blk_frozen BK305.out 0
           have hfz183_1 := blk_frozen BK305.out 1
           go_wp2_with (first | (go_at_call 61; (with_reducible refine (impl_IsRatio.calls k t286 t287 true _ A133.out).mono ?_); rintro e w184 ⟨rfl, hb⟩; have n0_ := Aside0.mk (blk_below (g := gb284) (o := .cells #[.int .i64 t280, .int .i64 t281] 24 (0, 0)) (by (with_reducible repeat first|apply bn|apply bd|apply ba); refine blk_far ?_ NB284_305.out _; (with_reducible repeat first|apply bn|apply bd|apply ba); refine blk_far ?_ NB284_305.out _; (with_reducible repeat first|apply bn|apply bd|apply ba); exact BK284.out) hb); have n1_ := Aside0.mk (blk_below (g := gb285) (o := .cells #[.int .i64 t282, .int .i64 t283] 24 (0, 0)) (by (with_reducible repeat first|apply bn|apply bd|apply ba); refine blk_far ?_ NB285_305.out _; (with_reducible repeat first|apply bn|apply bd|apply ba); refine blk_far ?_ NB285_305.out _; (with_reducible repeat first|apply bn|apply bd|apply ba); exact BK285.out) hb); have n2_ := Aside0.mk (blk_below (g := gb289) (o := .cells #[.int .i64 t286, .int .i64 t287] 24 (0, 0)) (by (with_reducible repeat first|apply bn|apply bd|apply ba); refine blk_far ?_ NB289_305.out _; (with_reducible repeat first|apply bn|apply bd|apply ba); refine blk_far ?_ NB289_305.out _; (with_reducible repeat first|apply bn|apply bd|apply ba); exact BK289.out) hb); have n3_ := Aside0.mk (blk_below (g := gb293) (o := .cells #[.int .i64 t290, .int .i64 t291] 24 (0, 0)) (by (with_reducible repeat first|apply bn|apply bd|apply ba); refine blk_far ?_ NB293_305.out _; (with_reducible repeat first|apply bn|apply bd|apply ba); refine blk_far ?_ NB293_305.out _; (with_reducible repeat first|apply bn|apply bd|apply ba); exact BK293.out) hb); have n4_ := Aside0.mk (blk_below (g := gb297) (o := .cells #[.int .i64 t294, .int .i64 t295] 24 (0, 0)) (by (with_reducible repeat first|apply bn|apply bd|apply ba); refine blk_far ?_ NB297_305.out _; (with_reducible repeat first|apply bn|apply bd|apply ba); refine blk_far ?_ NB297_305.out _; (with_reducible repeat first|apply bn|apply bd|apply ba); exact BK297.out) hb); have n5_ := Aside0.mk (blk_below (g := gb301) (o := .cells #[.int .i64 t298, .int .i64 t299] 24 (0, 0)) (by (with_reducible repeat first|apply bn|apply bd|apply ba); refine blk_far ?_ NB301_305.out _; (with_reducible repeat first|apply bn|apply bd|apply ba); refine blk_far ?_ NB301_305.out _; (with_reducible repeat first|apply bn|apply bd|apply ba); exact BK301.out) hb); have n6_ := Aside0.mk (blk_below (g := gb305) (o := .cells #[.int .i64 t302, .int .i64 t303] 24 (0, 0)) (by (with_reducible repeat first|apply bn|apply bd|apply ba); refine blk_put (cs := #[.int .i64 t302, .int .i64 0]) ?_ 1 _ rfl; (with_reducible repeat first|apply bn|apply bd|apply ba); refine blk_put (cs := #[.int .i64 0, .int .i64 0]) ?_ 0 _ rfl; (with_reducible repeat first|apply bn|apply bd|apply ba); exact BK305.out) hb); have n7_ := Aside0.mk (below_step (by repeat first|(with_reducible first|exact HB.out|apply la|apply ln|apply ld|refine ls ?_ (Aside0.out (by assumption)))|exact HB.out) hb); clear BK284; clear BK285; clear BK289; clear BK293; clear BK297; clear BK301; clear BK305; clear HB; have BK284 := n0_; have BK285 := n1_; have BK289 := n2_; have BK293 := n3_; have BK297 := n4_; have BK301 := n5_; have BK305 := n6_; have HB := n7_; clear n0_ n1_ n2_ n3_ n4_ n5_ n6_ n7_; (try clear hb)))
           go_meet
           case rel => exact ⟨_, (false), (by first | rfl | (simp; done) | (simp [*]; done)), H', ⟨by first | omega | exact Nat.le_refl _⟩, ⟨by (with_reducible repeat first|apply bn|apply bd|apply ba); exact BK284.out⟩, ⟨by (with_reducible repeat first|apply bn|apply bd|apply ba); exact BK285.out⟩, ⟨by (with_reducible repeat first|apply bn|apply bd|apply ba); exact BK289.out⟩, ⟨by (with_reducible repeat first|apply bn|apply bd|apply ba); exact BK293.out⟩, ⟨by (with_reducible repeat first|apply bn|apply bd|apply ba); exact BK297.out⟩, ⟨by (with_reducible repeat first|apply bn|apply bd|apply ba); exact BK301.out⟩, ⟨by (with_reducible repeat first|apply bn|apply bd|apply ba); exact BK305.out⟩, ⟨by repeat (first | (with_reducible first | exact HB.out | apply below_alloc | apply pw_below_drewN | apply below_drew1 | refine below_set ?_ GE284.out | refine below_set ?_ GE285.out | refine below_set ?_ GE289.out | refine below_set ?_ GE293.out | refine below_set ?_ GE297.out | refine below_set ?_ GE301.out | refine below_set ?_ GE305.out) | exact HB.out)⟩⟩
         ·replace c134 := Bool.eq_false_iff.mpr c134
          subst c134
          have H1 : (laws_FnRatios.j0 k l0 true t280 t281 t282 t283) = some r := by rw [if_neg (show ¬ (false = true) by decide)] at H; exact H
          clear H
          have H := H1
          clear H1
          have H' := Aside0.mk H
          clear H
          have hnb185 := NB289_284.out
          have hnc185 := NB284_289.out
          have hnb186 := NB289_285.out
          have hnc186 := NB285_289.out
          have hnb187 := NB289_293.out
          have hnc187 := NB293_289.out
          have hnb188 := NB289_297.out
          have hnc188 := NB297_289.out
          have hnb189 := NB289_301.out
          have hnc189 := NB301_289.out
          have hnb190 := NB289_305.out
          have hnc190 := NB305_289.out
          have hcz191_0 : w72.cell? ⟨gb289, 0, none⟩ = some (.int .i64 t286) := (blk_cell BK289.out 0).trans rfl
          have hcz191_1 : w72.cell? ⟨gb289, 1, none⟩ = some (.int .i64 t287) := (blk_cell BK289.out 1).trans rfl
          have hfz191_0 := blk_frozen BK289.out 0
          have hfz191_1 := blk_frozen BK289.out 1
          have hnb192 := NB297_284.out
          have hnc192 := NB284_297.out
          have hnb193 := NB297_285.out
          have hnc193 := NB285_297.out
          have hnb194 := NB297_293.out
          have hnc194 := NB293_297.out
          have hnb195 := NB297_301.out
          have hnc195 := NB301_297.out
          have hnb196 := NB297_305.out
          have hnc196 := NB305_297.out
          have hcz197_0 : w72.cell? ⟨gb297, 0, none⟩ = some (.int .i64 t294) := (blk_cell BK297.out 0).trans rfl
          have hcz197_1 : w72.cell? ⟨gb297, 1, none⟩ = some (.int .i64 t295) := (blk_cell BK297.out 1).trans rfl
          have hfz197_0 := blk_frozen BK297.out 0
          have hfz197_1 := blk_frozen BK297.out 1
          have hnb198 := NB301_284.out
          have hnc198 := NB284_301.out
          have hnb199 := NB301_285.out
          have hnc199 := NB285_301.out
          have hnb200 := NB301_293.out
          have hnc200 := NB293_301.out
          have hnb201 := NB301_305.out
          have hnc201 := NB305_301.out
          have hcz202_0 : w72.cell? ⟨gb301, 0, none⟩ = some (.int .i64 t298) := (blk_cell BK301.out 0).trans rfl
          have hcz202_1 : w72.cell? ⟨gb301, 1, none⟩ = some (.int .i64 t299) := (blk_cell BK301.out 1).trans rfl
          have hfz202_0 := blk_frozen BK301.out 0
          have hfz202_1 := blk_frozen BK301.out 1
          have hnb203 := NB305_284.out
          have hnc203 := NB284_305.out
          have hnb204 := NB305_285.out
          have hnc204 := NB285_305.out
          have hnb205 := NB305_293.out
          have hnc205 := NB293_305.out
          have hcz206_0 : w72.cell? ⟨gb305, 0, none⟩ = some (.int .i64 0) := (blk_cell BK305.out 0).trans rfl
          have hcz206_1 : w72.cell? ⟨gb305, 1, none⟩ = some (.int .i64 0) := (blk_cell BK305.out 1).trans rfl
          have hfz206_0 := blk_frozen BK305.out 0
          have hfz206_1 := blk_frozen BK305.out 1
          go_wp2_with (first | (go_at_call 61; (with_reducible refine (impl_IsRatio.calls k t286 t287 false _ A133.out).mono ?_); rintro e w207 ⟨rfl, hb⟩; have n0_ := Aside0.mk (blk_below (g := gb284) (o := .cells #[.int .i64 t280, .int .i64 t281] 24 (0, 0)) (by (with_reducible repeat first|apply bn|apply bd|apply ba); refine blk_far ?_ NB284_305.out _; (with_reducible repeat first|apply bn|apply bd|apply ba); refine blk_far ?_ NB284_305.out _; (with_reducible repeat first|apply bn|apply bd|apply ba); exact BK284.out) hb); have n1_ := Aside0.mk (blk_below (g := gb285) (o := .cells #[.int .i64 t282, .int .i64 t283] 24 (0, 0)) (by (with_reducible repeat first|apply bn|apply bd|apply ba); refine blk_far ?_ NB285_305.out _; (with_reducible repeat first|apply bn|apply bd|apply ba); refine blk_far ?_ NB285_305.out _; (with_reducible repeat first|apply bn|apply bd|apply ba); exact BK285.out) hb); have n2_ := Aside0.mk (blk_below (g := gb289) (o := .cells #[.int .i64 t286, .int .i64 t287] 24 (0, 0)) (by (with_reducible repeat first|apply bn|apply bd|apply ba); refine blk_far ?_ NB289_305.out _; (with_reducible repeat first|apply bn|apply bd|apply ba); refine blk_far ?_ NB289_305.out _; (with_reducible repeat first|apply bn|apply bd|apply ba); exact BK289.out) hb); have n3_ := Aside0.mk (blk_below (g := gb293) (o := .cells #[.int .i64 t290, .int .i64 t291] 24 (0, 0)) (by (with_reducible repeat first|apply bn|apply bd|apply ba); refine blk_far ?_ NB293_305.out _; (with_reducible repeat first|apply bn|apply bd|apply ba); refine blk_far ?_ NB293_305.out _; (with_reducible repeat first|apply bn|apply bd|apply ba); exact BK293.out) hb); have n4_ := Aside0.mk (blk_below (g := gb297) (o := .cells #[.int .i64 t294, .int .i64 t295] 24 (0, 0)) (by (with_reducible repeat first|apply bn|apply bd|apply ba); refine blk_far ?_ NB297_305.out _; (with_reducible repeat first|apply bn|apply bd|apply ba); refine blk_far ?_ NB297_305.out _; (with_reducible repeat first|apply bn|apply bd|apply ba); exact BK297.out) hb); have n5_ := Aside0.mk (blk_below (g := gb301) (o := .cells #[.int .i64 t298, .int .i64 t299] 24 (0, 0)) (by (with_reducible repeat first|apply bn|apply bd|apply ba); refine blk_far ?_ NB301_305.out _; (with_reducible repeat first|apply bn|apply bd|apply ba); refine blk_far ?_ NB301_305.out _; (with_reducible repeat first|apply bn|apply bd|apply ba); exact BK301.out) hb); have n6_ := Aside0.mk (blk_below (g := gb305) (o := .cells #[.int .i64 t302, .int .i64 t303] 24 (0, 0)) (by (with_reducible repeat first|apply bn|apply bd|apply ba); refine blk_put (cs := #[.int .i64 t302, .int .i64 0]) ?_ 1 _ rfl; (with_reducible repeat first|apply bn|apply bd|apply ba); refine blk_put (cs := #[.int .i64 0, .int .i64 0]) ?_ 0 _ rfl; (with_reducible repeat first|apply bn|apply bd|apply ba); exact BK305.out) hb); have n7_ := Aside0.mk (below_step (by repeat first|(with_reducible first|exact HB.out|apply la|apply ln|apply ld|refine ls ?_ (Aside0.out (by assumption)))|exact HB.out) hb); clear BK284; clear BK285; clear BK289; clear BK293; clear BK297; clear BK301; clear BK305; clear HB; have BK284 := n0_; have BK285 := n1_; have BK289 := n2_; have BK293 := n3_; have BK297 := n4_; have BK301 := n5_; have BK305 := n6_; have HB := n7_; clear n0_ n1_ n2_ n3_ n4_ n5_ n6_ n7_; (try clear hb)))
          go_meet
          case rel => exact ⟨_, (true), (by first | rfl | (simp; done) | (simp [*]; done)), H', ⟨by first | omega | exact Nat.le_refl _⟩, ⟨by (with_reducible repeat first|apply bn|apply bd|apply ba); exact BK284.out⟩, ⟨by (with_reducible repeat first|apply bn|apply bd|apply ba); exact BK285.out⟩, ⟨by (with_reducible repeat first|apply bn|apply bd|apply ba); exact BK289.out⟩, ⟨by (with_reducible repeat first|apply bn|apply bd|apply ba); exact BK293.out⟩, ⟨by (with_reducible repeat first|apply bn|apply bd|apply ba); exact BK297.out⟩, ⟨by (with_reducible repeat first|apply bn|apply bd|apply ba); exact BK301.out⟩, ⟨by (with_reducible repeat first|apply bn|apply bd|apply ba); exact BK305.out⟩, ⟨by repeat (first | (with_reducible first | exact HB.out | apply below_alloc | apply pw_below_drewN | apply below_drew1 | refine below_set ?_ GE284.out | refine below_set ?_ GE285.out | refine below_set ?_ GE289.out | refine below_set ?_ GE293.out | refine below_set ?_ GE297.out | refine below_set ?_ GE301.out | refine below_set ?_ GE305.out) | exact HB.out)⟩⟩
        ·replace c132 := Bool.eq_false_iff.mpr c132
         subst c132
         have H1 : (if t300 = true then ((impl_IsRatio.f k t298 t299).bind fun t308 => (laws_FnRatios.j0 k l0 (!t308) t280 t281 t282 t283)) else (laws_FnRatios.j0 k l0 false t280 t281 t282 t283)) = some r := by rw [if_neg (show ¬ (false = true) by decide)] at H; exact H
         clear H
         have H := H1
         clear H1
         by_cases c208 : t300 = true
         ·subst c208
          have H1 : ((impl_IsRatio.f k t298 t299).bind fun t308 => (laws_FnRatios.j0 k l0 (!t308) t280 t281 t282 t283)) = some r := by rw [if_pos rfl] at H; exact H
          clear H
          have H := H1
          clear H1
          replace H := Option.bind_eq_some_iff.mp H
          obtain ⟨t308, A2090, H⟩ := H
          replace H : (laws_FnRatios.j0 k l0 (!t308) t280 t281 t282 t283) = some r := H
          have A209 := Aside0.mk A2090
          clear A2090
          have H' := Aside0.mk H
          clear H
          have hnb210 := NB289_284.out
          have hnc210 := NB284_289.out
          have hnb211 := NB289_285.out
          have hnc211 := NB285_289.out
          have hnb212 := NB289_293.out
          have hnc212 := NB293_289.out
          have hnb213 := NB289_297.out
          have hnc213 := NB297_289.out
          have hnb214 := NB289_301.out
          have hnc214 := NB301_289.out
          have hnb215 := NB289_305.out
          have hnc215 := NB305_289.out
          have hcz216_0 : w72.cell? ⟨gb289, 0, none⟩ = some (.int .i64 t286) := (blk_cell BK289.out 0).trans rfl
          have hcz216_1 : w72.cell? ⟨gb289, 1, none⟩ = some (.int .i64 t287) := (blk_cell BK289.out 1).trans rfl
          have hfz216_0 := blk_frozen BK289.out 0
          have hfz216_1 := blk_frozen BK289.out 1
          have hnb217 := NB297_284.out
          have hnc217 := NB284_297.out
          have hnb218 := NB297_285.out
          have hnc218 := NB285_297.out
          have hnb219 := NB297_293.out
          have hnc219 := NB293_297.out
          have hnb220 := NB297_301.out
          have hnc220 := NB301_297.out
          have hnb221 := NB297_305.out
          have hnc221 := NB305_297.out
          have hcz222_0 : w72.cell? ⟨gb297, 0, none⟩ = some (.int .i64 t294) := (blk_cell BK297.out 0).trans rfl
          have hcz222_1 : w72.cell? ⟨gb297, 1, none⟩ = some (.int .i64 t295) := (blk_cell BK297.out 1).trans rfl
          have hfz222_0 := blk_frozen BK297.out 0
          have hfz222_1 := blk_frozen BK297.out 1
          have hnb223 := NB301_284.out
          have hnc223 := NB284_301.out
          have hnb224 := NB301_285.out
          have hnc224 := NB285_301.out
          have hnb225 := NB301_293.out
          have hnc225 := NB293_301.out
          have hnb226 := NB301_305.out
          have hnc226 := NB305_301.out
          have hcz227_0 : w72.cell? ⟨gb301, 0, none⟩ = some (.int .i64 t298) := (blk_cell BK301.out 0).trans rfl
          have hcz227_1 : w72.cell? ⟨gb301, 1, none⟩ = some (.int .i64 t299) := (blk_cell BK301.out 1).trans rfl
          have hfz227_0 := blk_frozen BK301.out 0
          have hfz227_1 := blk_frozen BK301.out 1
          have hnb228 := NB305_284.out
          have hnc228 := NB284_305.out
          have hnb229 := NB305_285.out
          have hnc229 := NB285_305.out
          have hnb230 := NB305_293.out
          have hnc230 := NB293_305.out
          have hcz231_0 : w72.cell? ⟨gb305, 0, none⟩ = some (.int .i64 0) := (blk_cell BK305.out 0).trans rfl
          have hcz231_1 : w72.cell? ⟨gb305, 1, none⟩ = some (.int .i64 0) := (blk_cell BK305.out 1).trans rfl
          have hfz231_0 := blk_frozen BK305.out 0
          have hfz231_1 := blk_frozen BK305.out 1
          go_wp2_with (first | (go_at_call 61; (with_reducible refine (impl_IsRatio.calls k t298 t299 t308 _ A209.out).mono ?_); rintro e w232 ⟨rfl, hb⟩; have n0_ := Aside0.mk (blk_below (g := gb284) (o := .cells #[.int .i64 t280, .int .i64 t281] 24 (0, 0)) (by (with_reducible repeat first|apply bn|apply bd|apply ba); refine blk_far ?_ NB284_305.out _; (with_reducible repeat first|apply bn|apply bd|apply ba); refine blk_far ?_ NB284_305.out _; (with_reducible repeat first|apply bn|apply bd|apply ba); exact BK284.out) hb); have n1_ := Aside0.mk (blk_below (g := gb285) (o := .cells #[.int .i64 t282, .int .i64 t283] 24 (0, 0)) (by (with_reducible repeat first|apply bn|apply bd|apply ba); refine blk_far ?_ NB285_305.out _; (with_reducible repeat first|apply bn|apply bd|apply ba); refine blk_far ?_ NB285_305.out _; (with_reducible repeat first|apply bn|apply bd|apply ba); exact BK285.out) hb); have n2_ := Aside0.mk (blk_below (g := gb289) (o := .cells #[.int .i64 t286, .int .i64 t287] 24 (0, 0)) (by (with_reducible repeat first|apply bn|apply bd|apply ba); refine blk_far ?_ NB289_305.out _; (with_reducible repeat first|apply bn|apply bd|apply ba); refine blk_far ?_ NB289_305.out _; (with_reducible repeat first|apply bn|apply bd|apply ba); exact BK289.out) hb); have n3_ := Aside0.mk (blk_below (g := gb293) (o := .cells #[.int .i64 t290, .int .i64 t291] 24 (0, 0)) (by (with_reducible repeat first|apply bn|apply bd|apply ba); refine blk_far ?_ NB293_305.out _; (with_reducible repeat first|apply bn|apply bd|apply ba); refine blk_far ?_ NB293_305.out _; (with_reducible repeat first|apply bn|apply bd|apply ba); exact BK293.out) hb); have n4_ := Aside0.mk (blk_below (g := gb297) (o := .cells #[.int .i64 t294, .int .i64 t295] 24 (0, 0)) (by (with_reducible repeat first|apply bn|apply bd|apply ba); refine blk_far ?_ NB297_305.out _; (with_reducible repeat first|apply bn|apply bd|apply ba); refine blk_far ?_ NB297_305.out _; (with_reducible repeat first|apply bn|apply bd|apply ba); exact BK297.out) hb); have n5_ := Aside0.mk (blk_below (g := gb301) (o := .cells #[.int .i64 t298, .int .i64 t299] 24 (0, 0)) (by (with_reducible repeat first|apply bn|apply bd|apply ba); refine blk_far ?_ NB301_305.out _; (with_reducible repeat first|apply bn|apply bd|apply ba); refine blk_far ?_ NB301_305.out _; (with_reducible repeat first|apply bn|apply bd|apply ba); exact BK301.out) hb); have n6_ := Aside0.mk (blk_below (g := gb305) (o := .cells #[.int .i64 t302, .int .i64 t303] 24 (0, 0)) (by (with_reducible repeat first|apply bn|apply bd|apply ba); refine blk_put (cs := #[.int .i64 t302, .int .i64 0]) ?_ 1 _ rfl; (with_reducible repeat first|apply bn|apply bd|apply ba); refine blk_put (cs := #[.int .i64 0, .int .i64 0]) ?_ 0 _ rfl; (with_reducible repeat first|apply bn|apply bd|apply ba); exact BK305.out) hb); have n7_ := Aside0.mk (below_step (by repeat first|(with_reducible first|exact HB.out|apply la|apply ln|apply ld|refine ls ?_ (Aside0.out (by assumption)))|exact HB.out) hb); clear BK284; clear BK285; clear BK289; clear BK293; clear BK297; clear BK301; clear BK305; clear HB; have BK284 := n0_; have BK285 := n1_; have BK289 := n2_; have BK293 := n3_; have BK297 := n4_; have BK301 := n5_; have BK305 := n6_; have HB := n7_; clear n0_ n1_ n2_ n3_ n4_ n5_ n6_ n7_; (try clear hb)))
          go_meet
          case rel => exact ⟨_, (!t308), (by first | rfl | (simp; done) | (simp [*]; done)), H', ⟨by first | omega | exact Nat.le_refl _⟩, ⟨by (with_reducible repeat first|apply bn|apply bd|apply ba); exact BK284.out⟩, ⟨by (with_reducible repeat first|apply bn|apply bd|apply ba); exact BK285.out⟩, ⟨by (with_reducible repeat first|apply bn|apply bd|apply ba); exact BK289.out⟩, ⟨by (with_reducible repeat first|apply bn|apply bd|apply ba); exact BK293.out⟩, ⟨by (with_reducible repeat first|apply bn|apply bd|apply ba); exact BK297.out⟩, ⟨by (with_reducible repeat first|apply bn|apply bd|apply ba); exact BK301.out⟩, ⟨by (with_reducible repeat first|apply bn|apply bd|apply ba); exact BK305.out⟩, ⟨by repeat (first | (with_reducible first | exact HB.out | apply below_alloc | apply pw_below_drewN | apply below_drew1 | refine below_set ?_ GE284.out | refine below_set ?_ GE285.out | refine below_set ?_ GE289.out | refine below_set ?_ GE293.out | refine below_set ?_ GE297.out | refine below_set ?_ GE301.out | refine below_set ?_ GE305.out) | exact HB.out)⟩⟩
         ·replace c208 := Bool.eq_false_iff.mpr c208
          subst c208
          have H1 : (laws_FnRatios.j0 k l0 false t280 t281 t282 t283) = some r := by rw [if_neg (show ¬ (false = true) by decide)] at H; exact H
          clear H
          have H := H1
          clear H1
          have H' := Aside0.mk H
          clear H
          have hnb233 := NB289_284.out
          have hnc233 := NB284_289.out
          have hnb234 := NB289_285.out
          have hnc234 := NB285_289.out
          have hnb235 := NB289_293.out
          have hnc235 := NB293_289.out
          have hnb236 := NB289_297.out
          have hnc236 := NB297_289.out
          have hnb237 := NB289_301.out
          have hnc237 := NB301_289.out
          have hnb238 := NB289_305.out
          have hnc238 := NB305_289.out
          have hcz239_0 : w72.cell? ⟨gb289, 0, none⟩ = some (.int .i64 t286) := (blk_cell BK289.out 0).trans rfl
          have hcz239_1 : w72.cell? ⟨gb289, 1, none⟩ = some (.int .i64 t287) := (blk_cell BK289.out 1).trans rfl
          have hfz239_0 := blk_frozen BK289.out 0
          have hfz239_1 := blk_frozen BK289.out 1
          have hnb240 := NB297_284.out
          have hnc240 := NB284_297.out
          have hnb241 := NB297_285.out
          have hnc241 := NB285_297.out
          have hnb242 := NB297_293.out
          have hnc242 := NB293_297.out
          have hnb243 := NB297_301.out
          have hnc243 := NB301_297.out
          have hnb244 := NB297_305.out
          have hnc244 := NB305_297.out
          have hcz245_0 : w72.cell? ⟨gb297, 0, none⟩ = some (.int .i64 t294) := (blk_cell BK297.out 0).trans rfl
          have hcz245_1 : w72.cell? ⟨gb297, 1, none⟩ = some (.int .i64 t295) := (blk_cell BK297.out 1).trans rfl
          have hfz245_0 := blk_frozen BK297.out 0
          have hfz245_1 := blk_frozen BK297.out 1
          have hnb246 := NB301_284.out
          have hnc246 := NB284_301.out
          have hnb247 := NB301_285.out
          have hnc247 := NB285_301.out
          have hnb248 := NB301_293.out
          have hnc248 := NB293_301.out
          have hnb249 := NB301_305.out
          have hnc249 := NB305_301.out
          have hcz250_0 : w72.cell? ⟨gb301, 0, none⟩ = some (.int .i64 t298) := (blk_cell BK301.out 0).trans rfl
          have hcz250_1 : w72.cell? ⟨gb301, 1, none⟩ = some (.int .i64 t299) := (blk_cell BK301.out 1).trans rfl
          have hfz250_0 := blk_frozen BK301.out 0
          have hfz250_1 := blk_frozen BK301.out 1
          have hnb251 := NB305_284.out
          have hnc251 := NB284_305.out
          have hnb252 := NB305_285.out
          have hnc252 := NB285_305.out
          have hnb253 := NB305_293.out
          have hnc253 := NB293_305.out
          have hcz254_0 : w72.cell? ⟨gb305, 0, none⟩ = some (.int .i64 0) := (blk_cell BK305.out 0).trans rfl
          have hcz254_1 : w72.cell? ⟨gb305, 1, none⟩ = some (.int .i64 0) := (blk_cell BK305.out 1).trans rfl
          have hfz254_0 := blk_frozen BK305.out 0
          have hfz254_1 := blk_frozen BK305.out 1
          go_wp2
          go_meet
          case rel => exact ⟨_, (false), (by first | rfl | (simp; done) | (simp [*]; done)), H', ⟨by first | omega | exact Nat.le_refl _⟩, ⟨by (with_reducible repeat first|apply bn|apply bd|apply ba); refine blk_far ?_ NB284_305.out _; (with_reducible repeat first|apply bn|apply bd|apply ba); refine blk_far ?_ NB284_305.out _; (with_reducible repeat first|apply bn|apply bd|apply ba); exact BK284.out⟩, ⟨by (with_reducible repeat first|apply bn|apply bd|apply ba); refine blk_far ?_ NB285_305.out _; (with_reducible repeat first|apply bn|apply bd|apply ba); refine blk_far ?_ NB285_305.out _; (with_reducible repeat first|apply bn|apply bd|apply ba); exact BK285.out⟩, ⟨by (with_reducible repeat first|apply bn|apply bd|apply ba); refine blk_far ?_ NB289_305.out _; (with_reducible repeat first|apply bn|apply bd|apply ba); refine blk_far ?_ NB289_305.out _; (with_reducible repeat first|apply bn|apply bd|apply ba); exact BK289.out⟩, ⟨by (with_reducible repeat first|apply bn|apply bd|apply ba); refine blk_far ?_ NB293_305.out _; (with_reducible repeat first|apply bn|apply bd|apply ba); refine blk_far ?_ NB293_305.out _; (with_reducible repeat first|apply bn|apply bd|apply ba); exact BK293.out⟩, ⟨by (with_reducible repeat first|apply bn|apply bd|apply ba); refine blk_far ?_ NB297_305.out _; (with_reducible repeat first|apply bn|apply bd|apply ba); refine blk_far ?_ NB297_305.out _; (with_reducible repeat first|apply bn|apply bd|apply ba); exact BK297.out⟩, ⟨by (with_reducible repeat first|apply bn|apply bd|apply ba); refine blk_far ?_ NB301_305.out _; (with_reducible repeat first|apply bn|apply bd|apply ba); refine blk_far ?_ NB301_305.out _; (with_reducible repeat first|apply bn|apply bd|apply ba); exact BK301.out⟩, ⟨by (with_reducible repeat first|apply bn|apply bd|apply ba); refine blk_put (cs := #[.int .i64 t302, .int .i64 0]) ?_ 1 _ rfl; (with_reducible repeat first|apply bn|apply bd|apply ba); refine blk_put (cs := #[.int .i64 0, .int .i64 0]) ?_ 0 _ rfl; (with_reducible repeat first|apply bn|apply bd|apply ba); exact BK305.out⟩, ⟨by repeat (first | (with_reducible first | exact HB.out | apply below_alloc | apply pw_below_drewN | apply below_drew1 | refine below_set ?_ GE284.out | refine below_set ?_ GE285.out | refine below_set ?_ GE289.out | refine below_set ?_ GE293.out | refine below_set ?_ GE297.out | refine below_set ?_ GE301.out | refine below_set ?_ GE305.out) | exact HB.out)⟩⟩
   case rest =>
    clear HC30;(try clear c3);(try clear c7);(try clear c7b0);(try clear c7b1);(try clear c7b2);(try clear c80);(try clear c80b0);(try clear c80b1);(try clear c80b2);(try clear c81);(try clear c81b0);(try clear c95);(try clear c95b0);(try clear c95b1);(try clear c95b2);(try clear c109);(try clear c109b0);(try clear c132);(try clear c134);(try clear c135);(try clear c208);(try clear hcz102_0 hcz102_1)
    (try clear hcz108_0 hcz108_1);(try clear hcz116_0 hcz116_1);(try clear hcz122_0 hcz122_1);(try clear hcz127_0 hcz127_1);(try clear hcz131_0 hcz131_1);(try clear hcz143_0 hcz143_1);(try clear hcz149_0 hcz149_1);(try clear hcz154_0 hcz154_1);(try clear hcz158_0 hcz158_1);(try clear hcz160_0)
    (try clear hcz160_1);(try clear hcz168_0 hcz168_1);(try clear hcz174_0 hcz174_1);(try clear hcz179_0 hcz179_1);(try clear hcz183_0 hcz183_1);(try clear hcz191_0 hcz191_1);(try clear hcz197_0 hcz197_1);(try clear hcz202_0 hcz202_1);(try clear hcz206_0 hcz206_1);(try clear hcz216_0 hcz216_1)
    (try clear hcz222_0 hcz222_1);(try clear hcz227_0 hcz227_1);(try clear hcz231_0 hcz231_1);(try clear hcz239_0 hcz239_1);(try clear hcz245_0 hcz245_1);(try clear hcz250_0 hcz250_1);(try clear hcz254_0 hcz254_1);(try clear hcz35_0 hcz35_1);(try clear hcz36_0 hcz36_1);(try clear hcz41_0 hcz41_1)
    (try clear hcz42_0 hcz42_1);(try clear hcz43_0 hcz43_1);(try clear hcz49_0 hcz49_1);(try clear hcz50_0 hcz50_1);(try clear hcz51_0 hcz51_1);(try clear hcz58_0 hcz58_1);(try clear hcz59_0 hcz59_1);(try clear hcz60_0 hcz60_1);(try clear hcz68_0 hcz68_1);(try clear hcz69_0 hcz69_1)
    (try clear hcz70_0 hcz70_1);(try clear hcz79_0 hcz79_1);(try clear hcz88_0 hcz88_1);(try clear hcz94_0 hcz94_1);(try clear hfz102_0 hfz102_1);(try clear hfz108_0 hfz108_1);(try clear hfz116_0 hfz116_1);(try clear hfz122_0 hfz122_1);(try clear hfz127_0 hfz127_1);(try clear hfz131_0 hfz131_1)
    (try clear hfz143_0 hfz143_1);(try clear hfz149_0 hfz149_1);(try clear hfz154_0 hfz154_1);(try clear hfz158_0 hfz158_1);(try clear hfz160_0 hfz160_1);(try clear hfz168_0 hfz168_1);(try clear hfz174_0 hfz174_1);(try clear hfz179_0 hfz179_1);(try clear hfz183_0 hfz183_1);(try clear hfz191_0)
    (try clear hfz191_1);(try clear hfz197_0 hfz197_1);(try clear hfz202_0 hfz202_1);(try clear hfz206_0 hfz206_1);(try clear hfz216_0 hfz216_1);(try clear hfz222_0 hfz222_1);(try clear hfz227_0 hfz227_1);(try clear hfz231_0 hfz231_1);(try clear hfz239_0 hfz239_1);(try clear hfz245_0 hfz245_1)
    (try clear hfz250_0 hfz250_1);(try clear hfz254_0 hfz254_1);(try clear hfz35_0 hfz35_1);(try clear hfz36_0 hfz36_1);(try clear hfz41_0 hfz41_1);(try clear hfz42_0 hfz42_1);(try clear hfz43_0 hfz43_1);(try clear hfz49_0 hfz49_1);(try clear hfz50_0 hfz50_1);(try clear hfz51_0 hfz51_1)
    (try clear hfz58_0 hfz58_1);(try clear hfz59_0 hfz59_1);(try clear hfz60_0 hfz60_1);(try clear hfz68_0 hfz68_1);(try clear hfz69_0 hfz69_1);(try clear hfz70_0 hfz70_1);(try clear hfz79_0 hfz79_1);(try clear hfz88_0 hfz88_1);(try clear hfz94_0 hfz94_1)
    obtain ⟨kq, x97_29, rfl, HA, HJ29, BK284, BK285, BK289, BK293, BK297, BK301, BK305, HB⟩ := hcut
    cases kq with
    | zero => exact absurd HA.out (by simp [laws_FnRatios.j0])
    | succ kj29 =>
     have H := HA.out
     clear HA
     simp only [laws_FnRatios.j0] at H
     by_cases c255 : x97_29 = true
     ·subst c255
      have H1 : (some false) = some r := by rw [if_pos rfl] at H; exact H
      clear H
      have H := H1
      clear H1
      exact absurd ((Option.some.inj H).trans htrue) (by decide)
     ·replace c255 := Bool.eq_false_iff.mpr c255
      subst c255
      have H1 : ((laws_minus.f kj29 t280 t281 t282 t283).bind fun bt309 => (if bt309.2.2 = true then ((impl_IsRatio.f kj29 t280 t281).bind fun t313 => (if t313 = true then ((impl_IsRatio.f kj29 t282 t283).bind fun t314 => (laws_FnRatios.j1 kj29 l0 t314 t280 t281 t282 t283 bt309.1 bt309.2.1)) else (laws_FnRatios.j1 kj29 l0 false t280 t281 t282 t283 bt309.1 bt309.2.1))) else (laws_FnRatios.j1 kj29 l0 false t280 t281 t282 t283 bt309.1 bt309.2.1))) = some r := by rw [if_neg (show ¬ (false = true) by decide)] at H; exact H
      clear H
      have H := H1
      clear H1
      replace H := Option.bind_eq_some_iff.mp H
      obtain ⟨⟨t309, t310, t311⟩, A2560, H⟩ := H
      replace H : (if t311 = true then ((impl_IsRatio.f kj29 t280 t281).bind fun t313 => (if t313 = true then ((impl_IsRatio.f kj29 t282 t283).bind fun t314 => (laws_FnRatios.j1 kj29 l0 t314 t280 t281 t282 t283 t309 t310)) else (laws_FnRatios.j1 kj29 l0 false t280 t281 t282 t283 t309 t310))) else (laws_FnRatios.j1 kj29 l0 false t280 t281 t282 t283 t309 t310)) = some r := H
      have A256 := Aside0.mk A2560
      clear A2560
      have HC257 := Aside0.mk H
      clear H
      have hnb258 := NB284_285.out
      have hnc258 := NB285_284.out
      have hnb259 := NB284_289.out
      have hnc259 := NB289_284.out
      have hnb260 := NB284_293.out
      have hnc260 := NB293_284.out
      have hnb261 := NB284_297.out
      have hnc261 := NB297_284.out
      have hnb262 := NB284_301.out
      have hnc262 := NB301_284.out
      have hnb263 := NB284_305.out
      have hnc263 := NB305_284.out
      have hcz264_0 : wc.cell? ⟨gb284, 0, none⟩ = some (.int .i64 t280) := (blk_cell BK284.out 0).trans rfl
      have hcz264_1 : wc.cell? ⟨gb284, 1, none⟩ = some (.int .i64 t281) := (blk_cell BK284.out 1).trans rfl
      have hfz264_0 := blk_frozen BK284.out 0
      have hfz264_1 := blk_frozen BK284.out 1
      have hnb265 := NB285_289.out
      have hnc265 := NB289_285.out
      have hnb266 := NB285_293.out
      have hnc266 := NB293_285.out
      have hnb267 := NB285_297.out
      have hnc267 := NB297_285.out
      have hnb268 := NB285_301.out
      have hnc268 := NB301_285.out
      have hnb269 := NB285_305.out
      have hnc269 := NB305_285.out
      have hcz270_0 : wc.cell? ⟨gb285, 0, none⟩ = some (.int .i64 t282) := (blk_cell BK285.out 0).trans rfl
      have hcz270_1 : wc.cell? ⟨gb285, 1, none⟩ = some (.int .i64 t283) := (blk_cell BK285.out 1).trans rfl
      have hfz270_0 := blk_frozen BK285.out 0
      have hfz270_1 := blk_frozen BK285.out 1
      go_upto_region 14 with (first | ((with_reducible refine gate_callee (f := 62) rfl ?_); refine goesL_ (some 101) rfl rfl Try.func62 (by kernel_rfl) rfl #[.agg #[.int .i64 t280, .int .i64 t281], .agg #[.int .i64 t282, .int .i64 t283]] rfl (by (try simp only [List.map_toArray, List.map_cons, List.map_nil]); first|done|rfl) ?_; (with_reducible refine (laws_minus.calls kj29 t280 t281 t282 t283 t309 t310 t311 _ A256.out).mono ?_); rintro e w271 ⟨rfl, hb⟩; refine ⟨_, rfl, ?_⟩; have n0_ := Aside0.mk (blk_below (g := gb284) (o := .cells #[.int .i64 t280, .int .i64 t281] 24 (0, 0)) (by (with_reducible repeat first|apply bn|apply bd|apply ba); exact BK284.out) hb); have n1_ := Aside0.mk (blk_below (g := gb285) (o := .cells #[.int .i64 t282, .int .i64 t283] 24 (0, 0)) (by (with_reducible repeat first|apply bn|apply bd|apply ba); exact BK285.out) hb); have n2_ := Aside0.mk (blk_below (g := gb289) (o := .cells #[.int .i64 t286, .int .i64 t287] 24 (0, 0)) (by (with_reducible repeat first|apply bn|apply bd|apply ba); exact BK289.out) hb); have n3_ := Aside0.mk (blk_below (g := gb293) (o := .cells #[.int .i64 t290, .int .i64 t291] 24 (0, 0)) (by (with_reducible repeat first|apply bn|apply bd|apply ba); exact BK293.out) hb); have n4_ := Aside0.mk (blk_below (g := gb297) (o := .cells #[.int .i64 t294, .int .i64 t295] 24 (0, 0)) (by (with_reducible repeat first|apply bn|apply bd|apply ba); exact BK297.out) hb); have n5_ := Aside0.mk (blk_below (g := gb301) (o := .cells #[.int .i64 t298, .int .i64 t299] 24 (0, 0)) (by (with_reducible repeat first|apply bn|apply bd|apply ba); exact BK301.out) hb); have n6_ := Aside0.mk (blk_below (g := gb305) (o := .cells #[.int .i64 t302, .int .i64 t303] 24 (0, 0)) (by (with_reducible repeat first|apply bn|apply bd|apply ba); exact BK305.out) hb); have n7_ := Aside0.mk (below_step (by repeat first|(with_reducible first|exact HB.out|apply la|apply ln|apply ld|refine ls ?_ (Aside0.out (by assumption)))|exact HB.out) hb); clear BK284; clear BK285; clear BK289; clear BK293; clear BK297; clear BK301; clear BK305; clear HB; have BK284 := n0_; have BK285 := n1_; have BK289 := n2_; have BK293 := n3_; have BK297 := n4_; have BK301 := n5_; have BK305 := n6_; have HB := n7_; clear n0_ n1_ n2_ n3_ n4_ n5_ n6_ n7_; (try clear hb)) | ((with_reducible refine gate_dst (N := 15) rfl ?_); refine box_event ?hg (N := 15) ?hd (cs := #[.int .i64 0, .int .i64 0]) (t := 24) ?hr ?_; (case hd => rfl); (case hg => rfl); (case hr => first | (go_simp; done) | (go_simp; rfl)); intro gb312 hg w272 hbox hb; have n0_ := Aside0.mk (blk_below (g := gb284) (o := .cells #[.int .i64 t280, .int .i64 t281] 24 (0, 0)) (by (with_reducible repeat first|apply bn|apply bd|apply ba); exact BK284.out) hb); have n1_ := Aside0.mk (blk_below (g := gb285) (o := .cells #[.int .i64 t282, .int .i64 t283] 24 (0, 0)) (by (with_reducible repeat first|apply bn|apply bd|apply ba); exact BK285.out) hb); have n2_ := Aside0.mk (blk_below (g := gb289) (o := .cells #[.int .i64 t286, .int .i64 t287] 24 (0, 0)) (by (with_reducible repeat first|apply bn|apply bd|apply ba); exact BK289.out) hb); have n3_ := Aside0.mk (blk_below (g := gb293) (o := .cells #[.int .i64 t290, .int .i64 t291] 24 (0, 0)) (by (with_reducible repeat first|apply bn|apply bd|apply ba); exact BK293.out) hb); have n4_ := Aside0.mk (blk_below (g := gb297) (o := .cells #[.int .i64 t294, .int .i64 t295] 24 (0, 0)) (by (with_reducible repeat first|apply bn|apply bd|apply ba); exact BK297.out) hb); have n5_ := Aside0.mk (blk_below (g := gb301) (o := .cells #[.int .i64 t298, .int .i64 t299] 24 (0, 0)) (by (with_reducible repeat first|apply bn|apply bd|apply ba); exact BK301.out) hb); have n6_ := Aside0.mk (blk_below (g := gb305) (o := .cells #[.int .i64 t302, .int .i64 t303] 24 (0, 0)) (by (with_reducible repeat first|apply bn|apply bd|apply ba); exact BK305.out) hb); have n7_ := Aside0.mk (below_step (by repeat first|(with_reducible first|exact HB.out|apply la|apply ln|apply ld|refine ls ?_ (Aside0.out (by assumption)))|exact HB.out) hb); have n8_ := Aside0.mk (hbox); have n9_ := Aside0.mk ((by rw [hg]; exact (below_size (by repeat first|(with_reducible first|exact HB.out|apply la|apply ln|apply ld|refine ls ?_ (Aside0.out (by assumption)))|exact HB.out)) : w.heap.size ≤ gb312)); have n10_ := Aside0.mk ((by rw [hg]; exact (below_size (by repeat first|(with_reducible first|exact HB.out|apply la|apply ln|apply ld|refine ls ?_ (Aside0.out (by assumption)))|exact HB.out)) : w.heap.size ≤ gb312)); have n11_ := Aside0.mk ((by rw [hg]; exact Nat.ne_of_lt (blk_lt (g := gb284) (o := .cells #[.int .i64 t280, .int .i64 t281] 24 (0, 0)) (by (with_reducible repeat first|apply bn|apply bd|apply ba); exact BK284.out)) : gb284 ≠ gb312)); have n12_ := Aside0.mk ((by rw [hg]; exact Nat.ne_of_gt (blk_lt (g := gb284) (o := .cells #[.int .i64 t280, .int .i64 t281] 24 (0, 0)) (by (with_reducible repeat first|apply bn|apply bd|apply ba); exact BK284.out)) : gb312 ≠ gb284)); have n13_ := Aside0.mk ((by rw [hg]; exact Nat.ne_of_lt (blk_lt (g := gb285) (o := .cells #[.int .i64 t282, .int .i64 t283] 24 (0, 0)) (by (with_reducible repeat first|apply bn|apply bd|apply ba); exact BK285.out)) : gb285 ≠ gb312)); have n14_ := Aside0.mk ((by rw [hg]; exact Nat.ne_of_gt (blk_lt (g := gb285) (o := .cells #[.int .i64 t282, .int .i64 t283] 24 (0, 0)) (by (with_reducible repeat first|apply bn|apply bd|apply ba); exact BK285.out)) : gb312 ≠ gb285)); have n15_ := Aside0.mk ((by rw [hg]; exact Nat.ne_of_lt (blk_lt (g := gb289) (o := .cells #[.int .i64 t286, .int .i64 t287] 24 (0, 0)) (by (with_reducible repeat first|apply bn|apply bd|apply ba); exact BK289.out)) : gb289 ≠ gb312)); have n16_ := Aside0.mk ((by rw [hg]; exact Nat.ne_of_gt (blk_lt (g := gb289) (o := .cells #[.int .i64 t286, .int .i64 t287] 24 (0, 0)) (by (with_reducible repeat first|apply bn|apply bd|apply ba); exact BK289.out)) : gb312 ≠ gb289)); have n17_ := Aside0.mk ((by rw [hg]; exact Nat.ne_of_lt (blk_lt (g := gb293) (o := .cells #[.int .i64 t290, .int .i64 t291] 24 (0, 0)) (by (with_reducible repeat first|apply bn|apply bd|apply ba); exact BK293.out)) : gb293 ≠ gb312)); have n18_ := Aside0.mk ((by rw [hg]; exact Nat.ne_of_gt (blk_lt (g := gb293) (o := .cells #[.int .i64 t290, .int .i64 t291] 24 (0, 0)) (by (with_reducible repeat first|apply bn|apply bd|apply ba); exact BK293.out)) : gb312 ≠ gb293)); have n19_ := Aside0.mk ((by rw [hg]; exact Nat.ne_of_lt (blk_lt (g := gb297) (o := .cells #[.int .i64 t294, .int .i64 t295] 24 (0, 0)) (by (with_reducible repeat first|apply bn|apply bd|apply ba); exact BK297.out)) : gb297 ≠ gb312)); have n20_ := Aside0.mk ((by rw [hg]; exact Nat.ne_of_gt (blk_lt (g := gb297) (o := .cells #[.int .i64 t294, .int .i64 t295] 24 (0, 0)) (by (with_reducible repeat first|apply bn|apply bd|apply ba); exact BK297.out)) : gb312 ≠ gb297)); have n21_ := Aside0.mk ((by rw [hg]; exact Nat.ne_of_lt (blk_lt (g := gb301) (o := .cells #[.int .i64 t298, .int .i64 t299] 24 (0, 0)) (by (with_reducible repeat first|apply bn|apply bd|apply ba); exact BK301.out)) : gb301 ≠ gb312)); have n22_ := Aside0.mk ((by rw [hg]; exact Nat.ne_of_gt (blk_lt (g := gb301) (o := .cells #[.int .i64 t298, .int .i64 t299] 24 (0, 0)) (by (with_reducible repeat first|apply bn|apply bd|apply ba); exact BK301.out)) : gb312 ≠ gb301)); have n23_ := Aside0.mk ((by rw [hg]; exact Nat.ne_of_lt (blk_lt (g := gb305) (o := .cells #[.int .i64 t302, .int .i64 t303] 24 (0, 0)) (by (with_reducible repeat first|apply bn|apply bd|apply ba); exact BK305.out)) : gb305 ≠ gb312)); have n24_ := Aside0.mk ((by rw [hg]; exact Nat.ne_of_gt (blk_lt (g := gb305) (o := .cells #[.int .i64 t302, .int .i64 t303] 24 (0, 0)) (by (with_reducible repeat first|apply bn|apply bd|apply ba); exact BK305.out)) : gb312 ≠ gb305)); clear BK284; clear BK285; clear BK289; clear BK293; clear BK297; clear BK301; clear BK305; clear HB; have BK284 := n0_; have BK285 := n1_; have BK289 := n2_; have BK293 := n3_; have BK297 := n4_; have BK301 := n5_; have BK305 := n6_; have HB := n7_; have BK312 := n8_; have GW312 := n9_; have GE312 := n10_; have NB284_312 := n11_; have NB312_284 := n12_; have NB285_312 := n13_; have NB312_285 := n14_; have NB289_312 := n15_; have NB312_289 := n16_; have NB293_312 := n17_; have NB312_293 := n18_; have NB297_312 := n19_; have NB312_297 := n20_; have NB301_312 := n21_; have NB312_301 := n22_; have NB305_312 := n23_; have NB312_305 := n24_; clear n0_ n1_ n2_ n3_ n4_ n5_ n6_ n7_ n8_ n9_ n10_ n11_ n12_ n13_ n14_ n15_ n16_ n17_ n18_ n19_ n20_ n21_ n22_ n23_ n24_; clear hb hbox hg; have hnb273 := NB312_284.out; have hnc273 := NB284_312.out; have hnb274 := NB312_285.out; have hnc274 := NB285_312.out; have hnb275 := NB312_289.out; have hnc275 := NB289_312.out; have hnb276 := NB312_293.out; have hnc276 := NB293_312.out; have hnb277 := NB312_297.out; have hnc277 := NB297_312.out; have hnb278 := NB312_301.out; have hnc278 := NB301_312.out; have hnb279 := NB312_305.out; have hnc279 := NB305_312.out; have hcz280_0 : w272.cell? ⟨gb312, 0, none⟩ = some (.int .i64 0) := (blk_cell BK312.out 0).trans rfl; have hcz280_1 : w272.cell? ⟨gb312, 1, none⟩ = some (.int .i64 0) := (blk_cell BK312.out 1).trans rfl; have hfz280_0 := blk_frozen BK312.out 0; have hfz280_1 := blk_frozen BK312.out 1))
      (try simp only [Act.put, List.setIfInBounds_toArray, List.set])
      go_cut [112] (fun v112 wc => ∃ (kq : Nat) (x112_256 : Bool), v112 = .bool x112_256 ∧ Aside0 (laws_FnRatios.j1 kq l0 x112_256 t280 t281 t282 t283 t309 t310 = some r) ∧ Aside0 (kq ≤ kj29) ∧ Aside0 (wc.heap[gb284]? = some (.cells #[.int .i64 t280, .int .i64 t281] 24 (0, 0))) ∧ Aside0 (wc.heap[gb285]? = some (.cells #[.int .i64 t282, .int .i64 t283] 24 (0, 0))) ∧ Aside0 (wc.heap[gb289]? = some (.cells #[.int .i64 t286, .int .i64 t287] 24 (0, 0))) ∧ Aside0 (wc.heap[gb293]? = some (.cells #[.int .i64 t290, .int .i64 t291] 24 (0, 0))) ∧ Aside0 (wc.heap[gb297]? = some (.cells #[.int .i64 t294, .int .i64 t295] 24 (0, 0))) ∧ Aside0 (wc.heap[gb301]? = some (.cells #[.int .i64 t298, .int .i64 t299] 24 (0, 0))) ∧ Aside0 (wc.heap[gb305]? = some (.cells #[.int .i64 t302, .int .i64 t303] 24 (0, 0))) ∧ Aside0 (wc.heap[gb312]? = some (.cells #[.int .i64 t309, .int .i64 t310] 24 (0, 0))) ∧ Aside0 (Below w.heap.size w wc))
      case first =>
       have H := HC257.out
       clear HC257
       by_cases c281 : t311 = true
       ·subst c281
        have H1 : ((impl_IsRatio.f kj29 t280 t281).bind fun t313 => (if t313 = true then ((impl_IsRatio.f kj29 t282 t283).bind fun t314 => (laws_FnRatios.j1 kj29 l0 t314 t280 t281 t282 t283 t309 t310)) else (laws_FnRatios.j1 kj29 l0 false t280 t281 t282 t283 t309 t310))) = some r := by rw [if_pos rfl] at H; exact H
        clear H
        have H := H1
        clear H1
        replace H := Option.bind_eq_some_iff.mp H
        obtain ⟨t313, A2820, H⟩ := H
        replace H : (if t313 = true then ((impl_IsRatio.f kj29 t282 t283).bind fun t314 => (laws_FnRatios.j1 kj29 l0 t314 t280 t281 t282 t283 t309 t310)) else (laws_FnRatios.j1 kj29 l0 false t280 t281 t282 t283 t309 t310)) = some r := H
        have A282 := Aside0.mk A2820
        clear A2820
        by_cases c283 : t313 = true
        ·subst c283
         have H1 : ((impl_IsRatio.f kj29 t282 t283).bind fun t314 => (laws_FnRatios.j1 kj29 l0 t314 t280 t281 t282 t283 t309 t310)) = some r := by rw [if_pos rfl] at H; exact H
         clear H
         have H := H1
         clear H1
         replace H := Option.bind_eq_some_iff.mp H
         obtain ⟨t314, A2840, H⟩ := H
         replace H : (laws_FnRatios.j1 kj29 l0 t314 t280 t281 t282 t283 t309 t310) = some r := H
         have A284 := Aside0.mk A2840
         clear A2840
         have H' := Aside0.mk H
         clear H
         have hnb285 := NB284_285.out
         have hnc285 := NB285_284.out
         have hnb286 := NB284_289.out
         have hnc286 := NB289_284.out
         have hnb287 := NB284_293.out
         have hnc287 := NB293_284.out
         have hnb288 := NB284_297.out
         have hnc288 := NB297_284.out
         have hnb289 := NB284_301.out
         have hnc289 := NB301_284.out
         have hnb290 := NB284_305.out
         have hnc290 := NB305_284.out
         have hnb291 := NB284_312.out
         have hnc291 := NB312_284.out
         have hcz292_0 : w272.cell? ⟨gb284, 0, none⟩ = some (.int .i64 t280) := (blk_cell BK284.out 0).trans rfl
         have hcz292_1 : w272.cell? ⟨gb284, 1, none⟩ = some (.int .i64 t281) := (blk_cell BK284.out 1).trans rfl
         have hfz292_0 := blk_frozen BK284.out 0
         have hfz292_1 := blk_frozen BK284.out 1
         go_wp2_with (first | (go_at_call 61; (with_reducible refine (impl_IsRatio.calls kj29 t280 t281 true _ A282.out).mono ?_); rintro e w293 ⟨rfl, hb⟩; have n0_ := Aside0.mk (blk_below (g := gb284) (o := .cells #[.int .i64 t280, .int .i64 t281] 24 (0, 0)) (by (with_reducible repeat first|apply bn|apply bd|apply ba); refine blk_far ?_ NB284_312.out _; (with_reducible repeat first|apply bn|apply bd|apply ba); refine blk_far ?_ NB284_312.out _; (with_reducible repeat first|apply bn|apply bd|apply ba); exact BK284.out) hb); have n1_ := Aside0.mk (blk_below (g := gb285) (o := .cells #[.int .i64 t282, .int .i64 t283] 24 (0, 0)) (by (with_reducible repeat first|apply bn|apply bd|apply ba); refine blk_far ?_ NB285_312.out _; (with_reducible repeat first|apply bn|apply bd|apply ba); refine blk_far ?_ NB285_312.out _; (with_reducible repeat first|apply bn|apply bd|apply ba); exact BK285.out) hb); have n2_ := Aside0.mk (blk_below (g := gb289) (o := .cells #[.int .i64 t286, .int .i64 t287] 24 (0, 0)) (by (with_reducible repeat first|apply bn|apply bd|apply ba); refine blk_far ?_ NB289_312.out _; (with_reducible repeat first|apply bn|apply bd|apply ba); refine blk_far ?_ NB289_312.out _; (with_reducible repeat first|apply bn|apply bd|apply ba); exact BK289.out) hb); have n3_ := Aside0.mk (blk_below (g := gb293) (o := .cells #[.int .i64 t290, .int .i64 t291] 24 (0, 0)) (by (with_reducible repeat first|apply bn|apply bd|apply ba); refine blk_far ?_ NB293_312.out _; (with_reducible repeat first|apply bn|apply bd|apply ba); refine blk_far ?_ NB293_312.out _; (with_reducible repeat first|apply bn|apply bd|apply ba); exact BK293.out) hb); have n4_ := Aside0.mk (blk_below (g := gb297) (o := .cells #[.int .i64 t294, .int .i64 t295] 24 (0, 0)) (by (with_reducible repeat first|apply bn|apply bd|apply ba); refine blk_far ?_ NB297_312.out _; (with_reducible repeat first|apply bn|apply bd|apply ba); refine blk_far ?_ NB297_312.out _; (with_reducible repeat first|apply bn|apply bd|apply ba); exact BK297.out) hb); have n5_ := Aside0.mk (blk_below (g := gb301) (o := .cells #[.int .i64 t298, .int .i64 t299] 24 (0, 0)) (by (with_reducible repeat first|apply bn|apply bd|apply ba); refine blk_far ?_ NB301_312.out _; (with_reducible repeat first|apply bn|apply bd|apply ba); refine blk_far ?_ NB301_312.out _; (with_reducible repeat first|apply bn|apply bd|apply ba); exact BK301.out) hb); have n6_ := Aside0.mk (blk_below (g := gb305) (o := .cells #[.int .i64 t302, .int .i64 t303] 24 (0, 0)) (by (with_reducible repeat first|apply bn|apply bd|apply ba); refine blk_far ?_ NB305_312.out _; (with_reducible repeat first|apply bn|apply bd|apply ba); refine blk_far ?_ NB305_312.out _; (with_reducible repeat first|apply bn|apply bd|apply ba); exact BK305.out) hb); have n7_ := Aside0.mk (blk_below (g := gb312) (o := .cells #[.int .i64 t309, .int .i64 t310] 24 (0, 0)) (by (with_reducible repeat first|apply bn|apply bd|apply ba); refine blk_put (cs := #[.int .i64 t309, .int .i64 0]) ?_ 1 _ rfl; (with_reducible repeat first|apply bn|apply bd|apply ba); refine blk_put (cs := #[.int .i64 0, .int .i64 0]) ?_ 0 _ rfl; (with_reducible repeat first|apply bn|apply bd|apply ba); exact BK312.out) hb); have n8_ := Aside0.mk (below_step (by repeat first|(with_reducible first|exact HB.out|apply la|apply ln|apply ld|refine ls ?_ (Aside0.out (by assumption)))|exact HB.out) hb); clear BK284; clear BK285; clear BK289; clear BK293; clear BK297; clear BK301; clear BK305; clear BK312; clear HB; have BK284 := n0_; have BK285 := n1_; have BK289 := n2_; have BK293 := n3_; have BK297 := n4_; have BK301 := n5_; have BK305 := n6_; have BK312 := n7_; have HB := n8_; clear n0_ n1_ n2_ n3_ n4_ n5_ n6_ n7_ n8_; (try clear hb); have hnb294 := NB285_289.out; have hnc294 := NB289_285.out; have hnb295 := NB285_293.out; have hnc295 := NB293_285.out; have hnb296 := NB285_297.out; have hnc296 := NB297_285.out; have hnb297 := NB285_301.out; have hnc297 := NB301_285.out; have hnb298 := NB285_305.out; have hnc298 := NB305_285.out; have hnb299 := NB285_312.out; have hnc299 := NB312_285.out; have hcz300_0 : w293.cell? ⟨gb285, 0, none⟩ = some (.int .i64 t282) := (blk_cell BK285.out 0).trans rfl; have hcz300_1 : w293.cell? ⟨gb285, 1, none⟩ = some (.int .i64 t283) := (blk_cell BK285.out 1).trans rfl; have hfz300_0 := blk_frozen BK285.out 0; have hfz300_1 := blk_frozen BK285.out 1) | (go_at_call 61; (with_reducible refine (impl_IsRatio.calls kj29 t282 t283 t314 _ A284.out).mono ?_); rintro e w301 ⟨rfl, hb⟩; have n0_ := Aside0.mk (blk_below (g := gb284) (o := .cells #[.int .i64 t280, .int .i64 t281] 24 (0, 0)) (by (with_reducible repeat first|apply bn|apply bd|apply ba); exact BK284.out) hb); have n1_ := Aside0.mk (blk_below (g := gb285) (o := .cells #[.int .i64 t282, .int .i64 t283] 24 (0, 0)) (by (with_reducible repeat first|apply bn|apply bd|apply ba); exact BK285.out) hb); have n2_ := Aside0.mk (blk_below (g := gb289) (o := .cells #[.int .i64 t286, .int .i64 t287] 24 (0, 0)) (by (with_reducible repeat first|apply bn|apply bd|apply ba); exact BK289.out) hb); have n3_ := Aside0.mk (blk_below (g := gb293) (o := .cells #[.int .i64 t290, .int .i64 t291] 24 (0, 0)) (by (with_reducible repeat first|apply bn|apply bd|apply ba); exact BK293.out) hb); have n4_ := Aside0.mk (blk_below (g := gb297) (o := .cells #[.int .i64 t294, .int .i64 t295] 24 (0, 0)) (by (with_reducible repeat first|apply bn|apply bd|apply ba); exact BK297.out) hb); have n5_ := Aside0.mk (blk_below (g := gb301) (o := .cells #[.int .i64 t298, .int .i64 t299] 24 (0, 0)) (by (with_reducible repeat first|apply bn|apply bd|apply ba); exact BK301.out) hb); have n6_ := Aside0.mk (blk_below (g := gb305) (o := .cells #[.int .i64 t302, .int .i64 t303] 24 (0, 0)) (by (with_reducible repeat first|apply bn|apply bd|apply ba); exact BK305.out) hb); have n7_ := Aside0.mk (blk_below (g := gb312) (o := .cells #[.int .i64 t309, .int .i64 t310] 24 (0, 0)) (by (with_reducible repeat first|apply bn|apply bd|apply ba); exact BK312.out) hb); have n8_ := Aside0.mk (below_step (by repeat first|(with_reducible first|exact HB.out|apply la|apply ln|apply ld|refine ls ?_ (Aside0.out (by assumption)))|exact HB.out) hb); clear BK284; clear BK285; clear BK289; clear BK293; clear BK297; clear BK301; clear BK305; clear BK312; clear HB; have BK284 := n0_; have BK285 := n1_; have BK289 := n2_; have BK293 := n3_; have BK297 := n4_; have BK301 := n5_; have BK305 := n6_; have BK312 := n7_; have HB := n8_; clear n0_ n1_ n2_ n3_ n4_ n5_ n6_ n7_ n8_; (try clear hb)))
         go_meet
         case rel => exact ⟨_, (t314), (by first | rfl | (simp; done) | (simp [*]; done)), H', ⟨by have := HJ29.out; first | omega | exact Nat.le_refl _⟩, ⟨by (with_reducible repeat first|apply bn|apply bd|apply ba); exact BK284.out⟩, ⟨by (with_reducible repeat first|apply bn|apply bd|apply ba); exact BK285.out⟩, ⟨by (with_reducible repeat first|apply bn|apply bd|apply ba); exact BK289.out⟩, ⟨by (with_reducible repeat first|apply bn|apply bd|apply ba); exact BK293.out⟩, ⟨by (with_reducible repeat first|apply bn|apply bd|apply ba); exact BK297.out⟩, ⟨by (with_reducible repeat first|apply bn|apply bd|apply ba); exact BK301.out⟩, ⟨by (with_reducible repeat first|apply bn|apply bd|apply ba); exact BK305.out⟩, ⟨by (with_reducible repeat first|apply bn|apply bd|apply ba); exact BK312.out⟩, ⟨by repeat (first | (with_reducible first | exact HB.out | apply below_alloc | apply pw_below_drewN | apply below_drew1 | refine below_set ?_ GE284.out | refine below_set ?_ GE285.out | refine below_set ?_ GE289.out | refine below_set ?_ GE293.out | refine below_set ?_ GE297.out | refine below_set ?_ GE301.out | refine below_set ?_ GE305.out | refine below_set ?_ GE312.out) | exact HB.out)⟩⟩
        ·replace c283 := Bool.eq_false_iff.mpr c283
         subst c283
         have H1 : (laws_FnRatios.j1 kj29 l0 false t280 t281 t282 t283 t309 t310) = some r := by rw [if_neg (show ¬ (false = true) by decide)] at H; exact H
         clear H
         have H := H1
         clear H1
         have H' := Aside0.mk H
         clear H
         have hnb302 := NB284_285.out
         have hnc302 := NB285_284.out
         have hnb303 := NB284_289.out
         have hnc303 := NB289_284.out
         have hnb304 := NB284_293.out
         have hnc304 := NB293_284.out
         have hnb305 := NB284_297.out
         have hnc305 := NB297_284.out
         have hnb306 := NB284_301.out
         have hnc306 := NB301_284.out
         have hnb307 := NB284_305.out
         have hnc307 := NB305_284.out
         have hnb308 := NB284_312.out
         have hnc308 := NB312_284.out
         have hcz309_0 : w272.cell? ⟨gb284, 0, none⟩ = some (.int .i64 t280) := (blk_cell BK284.out 0).trans rfl
         have hcz309_1 : w272.cell? ⟨gb284, 1, none⟩ = some (.int .i64 t281) := (blk_cell BK284.out 1).trans rfl
         have hfz309_0 := blk_frozen BK284.out 0
         have hfz309_1 := blk_frozen BK284.out 1
         go_wp2_with (first | (go_at_call 61; (with_reducible refine (impl_IsRatio.calls kj29 t280 t281 false _ A282.out).mono ?_); rintro e w310 ⟨rfl, hb⟩; have n0_ := Aside0.mk (blk_below (g := gb284) (o := .cells #[.int .i64 t280, .int .i64 t281] 24 (0, 0)) (by (with_reducible repeat first|apply bn|apply bd|apply ba); refine blk_far ?_ NB284_312.out _; (with_reducible repeat first|apply bn|apply bd|apply ba); refine blk_far ?_ NB284_312.out _; (with_reducible repeat first|apply bn|apply bd|apply ba); exact BK284.out) hb); have n1_ := Aside0.mk (blk_below (g := gb285) (o := .cells #[.int .i64 t282, .int .i64 t283] 24 (0, 0)) (by (with_reducible repeat first|apply bn|apply bd|apply ba); refine blk_far ?_ NB285_312.out _; (with_reducible repeat first|apply bn|apply bd|apply ba); refine blk_far ?_ NB285_312.out _; (with_reducible repeat first|apply bn|apply bd|apply ba); exact BK285.out) hb); have n2_ := Aside0.mk (blk_below (g := gb289) (o := .cells #[.int .i64 t286, .int .i64 t287] 24 (0, 0)) (by (with_reducible repeat first|apply bn|apply bd|apply ba); refine blk_far ?_ NB289_312.out _; (with_reducible repeat first|apply bn|apply bd|apply ba); refine blk_far ?_ NB289_312.out _; (with_reducible repeat first|apply bn|apply bd|apply ba); exact BK289.out) hb); have n3_ := Aside0.mk (blk_below (g := gb293) (o := .cells #[.int .i64 t290, .int .i64 t291] 24 (0, 0)) (by (with_reducible repeat first|apply bn|apply bd|apply ba); refine blk_far ?_ NB293_312.out _; (with_reducible repeat first|apply bn|apply bd|apply ba); refine blk_far ?_ NB293_312.out _; (with_reducible repeat first|apply bn|apply bd|apply ba); exact BK293.out) hb); have n4_ := Aside0.mk (blk_below (g := gb297) (o := .cells #[.int .i64 t294, .int .i64 t295] 24 (0, 0)) (by (with_reducible repeat first|apply bn|apply bd|apply ba); refine blk_far ?_ NB297_312.out _; (with_reducible repeat first|apply bn|apply bd|apply ba); refine blk_far ?_ NB297_312.out _; (with_reducible repeat first|apply bn|apply bd|apply ba); exact BK297.out) hb); have n5_ := Aside0.mk (blk_below (g := gb301) (o := .cells #[.int .i64 t298, .int .i64 t299] 24 (0, 0)) (by (with_reducible repeat first|apply bn|apply bd|apply ba); refine blk_far ?_ NB301_312.out _; (with_reducible repeat first|apply bn|apply bd|apply ba); refine blk_far ?_ NB301_312.out _; (with_reducible repeat first|apply bn|apply bd|apply ba); exact BK301.out) hb); have n6_ := Aside0.mk (blk_below (g := gb305) (o := .cells #[.int .i64 t302, .int .i64 t303] 24 (0, 0)) (by (with_reducible repeat first|apply bn|apply bd|apply ba); refine blk_far ?_ NB305_312.out _; (with_reducible repeat first|apply bn|apply bd|apply ba); refine blk_far ?_ NB305_312.out _; (with_reducible repeat first|apply bn|apply bd|apply ba); exact BK305.out) hb); have n7_ := Aside0.mk (blk_below (g := gb312) (o := .cells #[.int .i64 t309, .int .i64 t310] 24 (0, 0)) (by (with_reducible repeat first|apply bn|apply bd|apply ba); refine blk_put (cs := #[.int .i64 t309, .int .i64 0]) ?_ 1 _ rfl; (with_reducible repeat first|apply bn|apply bd|apply ba); refine blk_put (cs := #[.int .i64 0, .int .i64 0]) ?_ 0 _ rfl; (with_reducible repeat first|apply bn|apply bd|apply ba); exact BK312.out) hb); have n8_ := Aside0.mk (below_step (by repeat first|(with_reducible first|exact HB.out|apply la|apply ln|apply ld|refine ls ?_ (Aside0.out (by assumption)))|exact HB.out) hb); clear BK284; clear BK285; clear BK289; clear BK293; clear BK297; clear BK301; clear BK305; clear BK312; clear HB; have BK284 := n0_; have BK285 := n1_; have BK289 := n2_; have BK293 := n3_; have BK297 := n4_; have BK301 := n5_; have BK305 := n6_; have BK312 := n7_; have HB := n8_; clear n0_ n1_ n2_ n3_ n4_ n5_ n6_ n7_ n8_; (try clear hb)))
         go_meet
         case rel => exact ⟨_, (false), (by first | rfl | (simp; done) | (simp [*]; done)), H', ⟨by have := HJ29.out; first | omega | exact Nat.le_refl _⟩, ⟨by (with_reducible repeat first|apply bn|apply bd|apply ba); exact BK284.out⟩, ⟨by (with_reducible repeat first|apply bn|apply bd|apply ba); exact BK285.out⟩, ⟨by (with_reducible repeat first|apply bn|apply bd|apply ba); exact BK289.out⟩, ⟨by (with_reducible repeat first|apply bn|apply bd|apply ba); exact BK293.out⟩, ⟨by (with_reducible repeat first|apply bn|apply bd|apply ba); exact BK297.out⟩, ⟨by (with_reducible repeat first|apply bn|apply bd|apply ba); exact BK301.out⟩, ⟨by (with_reducible repeat first|apply bn|apply bd|apply ba); exact BK305.out⟩, ⟨by (with_reducible repeat first|apply bn|apply bd|apply ba); exact BK312.out⟩, ⟨by repeat (first | (with_reducible first | exact HB.out | apply below_alloc | apply pw_below_drewN | apply below_drew1 | refine below_set ?_ GE284.out | refine below_set ?_ GE285.out | refine below_set ?_ GE289.out | refine below_set ?_ GE293.out | refine below_set ?_ GE297.out | refine below_set ?_ GE301.out | refine below_set ?_ GE305.out | refine below_set ?_ GE312.out) | exact HB.out)⟩⟩
       ·replace c281 := Bool.eq_false_iff.mpr c281
        subst c281
        have H1 : (laws_FnRatios.j1 kj29 l0 false t280 t281 t282 t283 t309 t310) = some r := by rw [if_neg (show ¬ (false = true) by decide)] at H; exact H
        clear H
        have H := H1
        clear H1
        have H' := Aside0.mk H
        clear H
        go_wp2
        go_meet
        case rel => exact ⟨_, (false), (by first | rfl | (simp; done) | (simp [*]; done)), H', ⟨by have := HJ29.out; first | omega | exact Nat.le_refl _⟩, ⟨by (with_reducible repeat first|apply bn|apply bd|apply ba); refine blk_far ?_ NB284_312.out _; (with_reducible repeat first|apply bn|apply bd|apply ba); refine blk_far ?_ NB284_312.out _; (with_reducible repeat first|apply bn|apply bd|apply ba); exact BK284.out⟩, ⟨by (with_reducible repeat first|apply bn|apply bd|apply ba); refine blk_far ?_ NB285_312.out _; (with_reducible repeat first|apply bn|apply bd|apply ba); refine blk_far ?_ NB285_312.out _; (with_reducible repeat first|apply bn|apply bd|apply ba); exact BK285.out⟩, ⟨by (with_reducible repeat first|apply bn|apply bd|apply ba); refine blk_far ?_ NB289_312.out _; (with_reducible repeat first|apply bn|apply bd|apply ba); refine blk_far ?_ NB289_312.out _; (with_reducible repeat first|apply bn|apply bd|apply ba); exact BK289.out⟩, ⟨by (with_reducible repeat first|apply bn|apply bd|apply ba); refine blk_far ?_ NB293_312.out _; (with_reducible repeat first|apply bn|apply bd|apply ba); refine blk_far ?_ NB293_312.out _; (with_reducible repeat first|apply bn|apply bd|apply ba); exact BK293.out⟩, ⟨by (with_reducible repeat first|apply bn|apply bd|apply ba); refine blk_far ?_ NB297_312.out _; (with_reducible repeat first|apply bn|apply bd|apply ba); refine blk_far ?_ NB297_312.out _; (with_reducible repeat first|apply bn|apply bd|apply ba); exact BK297.out⟩, ⟨by (with_reducible repeat first|apply bn|apply bd|apply ba); refine blk_far ?_ NB301_312.out _; (with_reducible repeat first|apply bn|apply bd|apply ba); refine blk_far ?_ NB301_312.out _; (with_reducible repeat first|apply bn|apply bd|apply ba); exact BK301.out⟩, ⟨by (with_reducible repeat first|apply bn|apply bd|apply ba); refine blk_far ?_ NB305_312.out _; (with_reducible repeat first|apply bn|apply bd|apply ba); refine blk_far ?_ NB305_312.out _; (with_reducible repeat first|apply bn|apply bd|apply ba); exact BK305.out⟩, ⟨by (with_reducible repeat first|apply bn|apply bd|apply ba); refine blk_put (cs := #[.int .i64 t309, .int .i64 0]) ?_ 1 _ rfl; (with_reducible repeat first|apply bn|apply bd|apply ba); refine blk_put (cs := #[.int .i64 0, .int .i64 0]) ?_ 0 _ rfl; (with_reducible repeat first|apply bn|apply bd|apply ba); exact BK312.out⟩, ⟨by repeat (first | (with_reducible first | exact HB.out | apply below_alloc | apply pw_below_drewN | apply below_drew1 | refine below_set ?_ GE284.out | refine below_set ?_ GE285.out | refine below_set ?_ GE289.out | refine below_set ?_ GE293.out | refine below_set ?_ GE297.out | refine below_set ?_ GE301.out | refine below_set ?_ GE305.out | refine below_set ?_ GE312.out) | exact HB.out)⟩⟩
      case rest =>
       clear HC257;(try clear c3);(try clear c7);(try clear c7b0);(try clear c7b1);(try clear c7b2);(try clear c80);(try clear c80b0);(try clear c80b1);(try clear c80b2);(try clear c81);(try clear c81b0);(try clear c95);(try clear c95b0);(try clear c95b1);(try clear c95b2);(try clear c109);(try clear c109b0);(try clear c132);(try clear c134);(try clear c135);(try clear c208);(try clear c255);(try clear c281)
       (try clear c283);(try clear hcz102_0 hcz102_1);(try clear hcz108_0 hcz108_1);(try clear hcz116_0 hcz116_1);(try clear hcz122_0 hcz122_1);(try clear hcz127_0 hcz127_1);(try clear hcz131_0 hcz131_1);(try clear hcz143_0 hcz143_1);(try clear hcz149_0 hcz149_1);(try clear hcz154_0 hcz154_1)
       (try clear hcz158_0 hcz158_1);(try clear hcz160_0 hcz160_1);(try clear hcz168_0 hcz168_1);(try clear hcz174_0 hcz174_1);(try clear hcz179_0 hcz179_1);(try clear hcz183_0 hcz183_1);(try clear hcz191_0 hcz191_1);(try clear hcz197_0 hcz197_1);(try clear hcz202_0 hcz202_1);(try clear hcz206_0)
       (try clear hcz206_1);(try clear hcz216_0 hcz216_1);(try clear hcz222_0 hcz222_1);(try clear hcz227_0 hcz227_1);(try clear hcz231_0 hcz231_1);(try clear hcz239_0 hcz239_1);(try clear hcz245_0 hcz245_1);(try clear hcz250_0 hcz250_1);(try clear hcz254_0 hcz254_1);(try clear hcz264_0 hcz264_1)
       (try clear hcz270_0 hcz270_1);(try clear hcz280_0 hcz280_1);(try clear hcz292_0 hcz292_1);(try clear hcz300_0 hcz300_1);(try clear hcz309_0 hcz309_1);(try clear hcz35_0 hcz35_1);(try clear hcz36_0 hcz36_1);(try clear hcz41_0 hcz41_1);(try clear hcz42_0 hcz42_1);(try clear hcz43_0 hcz43_1)
       (try clear hcz49_0 hcz49_1);(try clear hcz50_0 hcz50_1);(try clear hcz51_0 hcz51_1);(try clear hcz58_0 hcz58_1);(try clear hcz59_0 hcz59_1);(try clear hcz60_0 hcz60_1);(try clear hcz68_0 hcz68_1);(try clear hcz69_0 hcz69_1);(try clear hcz70_0 hcz70_1);(try clear hcz79_0 hcz79_1)
       (try clear hcz88_0 hcz88_1);(try clear hcz94_0 hcz94_1);(try clear hfz102_0 hfz102_1);(try clear hfz108_0 hfz108_1);(try clear hfz116_0 hfz116_1);(try clear hfz122_0 hfz122_1);(try clear hfz127_0 hfz127_1);(try clear hfz131_0 hfz131_1);(try clear hfz143_0 hfz143_1);(try clear hfz149_0)
       (try clear hfz149_1);(try clear hfz154_0 hfz154_1);(try clear hfz158_0 hfz158_1);(try clear hfz160_0 hfz160_1);(try clear hfz168_0 hfz168_1);(try clear hfz174_0 hfz174_1);(try clear hfz179_0 hfz179_1);(try clear hfz183_0 hfz183_1);(try clear hfz191_0 hfz191_1);(try clear hfz197_0 hfz197_1)
       (try clear hfz202_0 hfz202_1);(try clear hfz206_0 hfz206_1);(try clear hfz216_0 hfz216_1);(try clear hfz222_0 hfz222_1);(try clear hfz227_0 hfz227_1);(try clear hfz231_0 hfz231_1);(try clear hfz239_0 hfz239_1);(try clear hfz245_0 hfz245_1);(try clear hfz250_0 hfz250_1);(try clear hfz254_0)
       (try clear hfz254_1);(try clear hfz264_0 hfz264_1);(try clear hfz270_0 hfz270_1);(try clear hfz280_0 hfz280_1);(try clear hfz292_0 hfz292_1);(try clear hfz300_0 hfz300_1);(try clear hfz309_0 hfz309_1);(try clear hfz35_0 hfz35_1);(try clear hfz36_0 hfz36_1);(try clear hfz41_0 hfz41_1);(try clear hfz42_0)
       (try clear hfz42_1);(try clear hfz43_0 hfz43_1);(try clear hfz49_0 hfz49_1);(try clear hfz50_0 hfz50_1);(try clear hfz51_0 hfz51_1);(try clear hfz58_0 hfz58_1);(try clear hfz59_0 hfz59_1);(try clear hfz60_0 hfz60_1);(try clear hfz68_0 hfz68_1);(try clear hfz69_0 hfz69_1);(try clear hfz70_0)
       (try clear hfz70_1);(try clear hfz79_0 hfz79_1);(try clear hfz88_0 hfz88_1);(try clear hfz94_0 hfz94_1)
       obtain ⟨kq, x112_256, rfl, HA, HJ256, BK284, BK285, BK289, BK293, BK297, BK301, BK305, BK312, HB⟩ := hcut
       cases kq with
       | zero => exact absurd HA.out (by simp [laws_FnRatios.j1])
       | succ kj256 =>
        have H := HA.out
        clear HA
        simp only [laws_FnRatios.j1] at H
        have HC311 := Aside0.mk H
        clear H
        go_upto_if 112 with (fail)
        go_cut [] (fun wc => ∃ (kq : Nat), Aside0 (laws_FnRatios.j3 kq l0 t280 t281 t282 t283 = some r) ∧ Aside0 (kq ≤ kj256) ∧ Aside0 (wc.heap[gb284]? = some (.cells #[.int .i64 t280, .int .i64 t281] 24 (0, 0))) ∧ Aside0 (wc.heap[gb285]? = some (.cells #[.int .i64 t282, .int .i64 t283] 24 (0, 0))) ∧ Aside0 (wc.heap[gb289]? = some (.cells #[.int .i64 t286, .int .i64 t287] 24 (0, 0))) ∧ Aside0 (wc.heap[gb293]? = some (.cells #[.int .i64 t290, .int .i64 t291] 24 (0, 0))) ∧ Aside0 (wc.heap[gb297]? = some (.cells #[.int .i64 t294, .int .i64 t295] 24 (0, 0))) ∧ Aside0 (wc.heap[gb301]? = some (.cells #[.int .i64 t298, .int .i64 t299] 24 (0, 0))) ∧ Aside0 (wc.heap[gb305]? = some (.cells #[.int .i64 t302, .int .i64 t303] 24 (0, 0))) ∧ Aside0 (wc.heap[gb312]? = some (.cells #[.int .i64 t309, .int .i64 t310] 24 (0, 0))) ∧ Aside0 (Below w.heap.size w wc))
        case first =>
         have H := HC311.out
         clear HC311
         by_cases c312 : x112_256 = true
         ·subst c312
          have H1 : ((impl_CompareRatios.f kj256 t280 t281 t282 t283).bind fun t315 => (if ((decide (t309 > 0)) != (decide (t315 > 0))) = true then (laws_FnRatios.j2 kj256 l0 true t280 t281 t282 t283 t309 t310) else (laws_FnRatios.j2 kj256 l0 ((decide (t309 < 0)) != (decide (t315 < 0))) t280 t281 t282 t283 t309 t310))) = some r := by rw [if_pos rfl] at H; exact H
          clear H
          have H := H1
          clear H1
          replace H := Option.bind_eq_some_iff.mp H
          obtain ⟨t315, A3130, H⟩ := H
          replace H : (if ((decide (t309 > 0)) != (decide (t315 > 0))) = true then (laws_FnRatios.j2 kj256 l0 true t280 t281 t282 t283 t309 t310) else (laws_FnRatios.j2 kj256 l0 ((decide (t309 < 0)) != (decide (t315 < 0))) t280 t281 t282 t283 t309 t310)) = some r := H
          have A313 := Aside0.mk A3130
          clear A3130
          have HC314 := Aside0.mk H
          clear H
          have hnb315 := NB284_285.out
          have hnc315 := NB285_284.out
          have hnb316 := NB284_289.out
          have hnc316 := NB289_284.out
          have hnb317 := NB284_293.out
          have hnc317 := NB293_284.out
          have hnb318 := NB284_297.out
          have hnc318 := NB297_284.out
          have hnb319 := NB284_301.out
          have hnc319 := NB301_284.out
          have hnb320 := NB284_305.out
          have hnc320 := NB305_284.out
          have hnb321 := NB284_312.out
          have hnc321 := NB312_284.out
          have hcz322_0 : wc.cell? ⟨gb284, 0, none⟩ = some (.int .i64 t280) := (blk_cell BK284.out 0).trans rfl
          have hcz322_1 : wc.cell? ⟨gb284, 1, none⟩ = some (.int .i64 t281) := (blk_cell BK284.out 1).trans rfl
          have hfz322_0 := blk_frozen BK284.out 0
          have hfz322_1 := blk_frozen BK284.out 1
          have hnb323 := NB285_289.out
          have hnc323 := NB289_285.out
          have hnb324 := NB285_293.out
          have hnc324 := NB293_285.out
          have hnb325 := NB285_297.out
          have hnc325 := NB297_285.out
          have hnb326 := NB285_301.out
          have hnc326 := NB301_285.out
          have hnb327 := NB285_305.out
          have hnc327 := NB305_285.out
          have hnb328 := NB285_312.out
          have hnc328 := NB312_285.out
          have hcz329_0 : wc.cell? ⟨gb285, 0, none⟩ = some (.int .i64 t282) := (blk_cell BK285.out 0).trans rfl
          have hcz329_1 : wc.cell? ⟨gb285, 1, none⟩ = some (.int .i64 t283) := (blk_cell BK285.out 1).trans rfl
          have hfz329_0 := blk_frozen BK285.out 0
          have hfz329_1 := blk_frozen BK285.out 1
          go_upto_region 16 with (first | ((with_reducible refine gate_callee (f := 20) rfl ?_); refine goesL_ (some 115) rfl rfl Try.func20 (by kernel_rfl) rfl #[.agg #[.int .i64 t280, .int .i64 t281], .agg #[.int .i64 t282, .int .i64 t283]] rfl (by (try simp only [List.map_toArray, List.map_cons, List.map_nil]); first|done|rfl) ?_; (with_reducible refine (impl_CompareRatios.calls kj256 t280 t281 t282 t283 t315 _ A313.out).mono ?_); rintro e w330 ⟨rfl, hb⟩; refine ⟨_, rfl, ?_⟩; have n0_ := Aside0.mk (blk_below (g := gb284) (o := .cells #[.int .i64 t280, .int .i64 t281] 24 (0, 0)) (by (with_reducible repeat first|apply bn|apply bd|apply ba); exact BK284.out) hb); have n1_ := Aside0.mk (blk_below (g := gb285) (o := .cells #[.int .i64 t282, .int .i64 t283] 24 (0, 0)) (by (with_reducible repeat first|apply bn|apply bd|apply ba); exact BK285.out) hb); have n2_ := Aside0.mk (blk_below (g := gb289) (o := .cells #[.int .i64 t286, .int .i64 t287] 24 (0, 0)) (by (with_reducible repeat first|apply bn|apply bd|apply ba); exact BK289.out) hb); have n3_ := Aside0.mk (blk_below (g := gb293) (o := .cells #[.int .i64 t290, .int .i64 t291] 24 (0, 0)) (by (with_reducible repeat first|apply bn|apply bd|apply ba); exact BK293.out) hb); have n4_ := Aside0.mk (blk_below (g := gb297) (o := .cells #[.int .i64 t294, .int .i64 t295] 24 (0, 0)) (by (with_reducible repeat first|apply bn|apply bd|apply ba); exact BK297.out) hb); have n5_ := Aside0.mk (blk_below (g := gb301) (o := .cells #[.int .i64 t298, .int .i64 t299] 24 (0, 0)) (by (with_reducible repeat first|apply bn|apply bd|apply ba); exact BK301.out) hb); have n6_ := Aside0.mk (blk_below (g := gb305) (o := .cells #[.int .i64 t302, .int .i64 t303] 24 (0, 0)) (by (with_reducible repeat first|apply bn|apply bd|apply ba); exact BK305.out) hb); have n7_ := Aside0.mk (blk_below (g := gb312) (o := .cells #[.int .i64 t309, .int .i64 t310] 24 (0, 0)) (by (with_reducible repeat first|apply bn|apply bd|apply ba); exact BK312.out) hb); have n8_ := Aside0.mk (below_step (by repeat first|(with_reducible first|exact HB.out|apply la|apply ln|apply ld|refine ls ?_ (Aside0.out (by assumption)))|exact HB.out) hb); clear BK284; clear BK285; clear BK289; clear BK293; clear BK297; clear BK301; clear BK305; clear BK312; clear HB; have BK284 := n0_; have BK285 := n1_; have BK289 := n2_; have BK293 := n3_; have BK297 := n4_; have BK301 := n5_; have BK305 := n6_; have BK312 := n7_; have HB := n8_; clear n0_ n1_ n2_ n3_ n4_ n5_ n6_ n7_ n8_; (try clear hb)))
          (try simp only [Act.put, List.setIfInBounds_toArray, List.set])
          go_cut [129] (fun v129 wc => ∃ (kq : Nat) (x129_313 : Bool), v129 = .bool x129_313 ∧ Aside0 (laws_FnRatios.j2 kq l0 x129_313 t280 t281 t282 t283 t309 t310 = some r) ∧ Aside0 (kq ≤ kj256) ∧ Aside0 (wc.heap[gb284]? = some (.cells #[.int .i64 t280, .int .i64 t281] 24 (0, 0))) ∧ Aside0 (wc.heap[gb285]? = some (.cells #[.int .i64 t282, .int .i64 t283] 24 (0, 0))) ∧ Aside0 (wc.heap[gb289]? = some (.cells #[.int .i64 t286, .int .i64 t287] 24 (0, 0))) ∧ Aside0 (wc.heap[gb293]? = some (.cells #[.int .i64 t290, .int .i64 t291] 24 (0, 0))) ∧ Aside0 (wc.heap[gb297]? = some (.cells #[.int .i64 t294, .int .i64 t295] 24 (0, 0))) ∧ Aside0 (wc.heap[gb301]? = some (.cells #[.int .i64 t298, .int .i64 t299] 24 (0, 0))) ∧ Aside0 (wc.heap[gb305]? = some (.cells #[.int .i64 t302, .int .i64 t303] 24 (0, 0))) ∧ Aside0 (wc.heap[gb312]? = some (.cells #[.int .i64 t309, .int .i64 t310] 24 (0, 0))) ∧ Aside0 (Below w.heap.size w wc))
          case first =>
           have H := HC314.out
           clear HC314
           by_cases c331 : ((decide (t309 > 0)) != (decide (t315 > 0))) = true
           ·rw [if_pos c331] at H
            have c331b0 : ((decide (t309 > 0)) != (decide (t315 > 0))) = true := c331
            (try (have c331b1 : decide ((decide (t309 > 0)) = (decide (t315 > 0))) = false := by simpa using c331))
            (try (have c331b2 : ((decide (t309 > 0)) == (decide (t315 > 0))) = false := by simpa using c331))
            (try (have c331b3 : ¬ ((decide (t309 > 0)) = (decide (t315 > 0))) := by simpa using c331))
            clear c331
            (first | rw [c331b0] | (simp only [i64_w, i32_w]; rw [c331b0]) | skip)
            have H' := Aside0.mk H
            clear H
            have hnb332 := NB312_284.out
            have hnc332 := NB284_312.out
            have hnb333 := NB312_285.out
            have hnc333 := NB285_312.out
            have hnb334 := NB312_289.out
            have hnc334 := NB289_312.out
            have hnb335 := NB312_293.out
            have hnc335 := NB293_312.out
            have hnb336 := NB312_297.out
            have hnc336 := NB297_312.out
            have hnb337 := NB312_301.out
            have hnc337 := NB301_312.out
            have hnb338 := NB312_305.out
            have hnc338 := NB305_312.out
            have hcz339_0 : w330.cell? ⟨gb312, 0, none⟩ = some (.int .i64 t309) := (blk_cell BK312.out 0).trans rfl
            have hcz339_1 : w330.cell? ⟨gb312, 1, none⟩ = some (.int .i64 t310) := (blk_cell BK312.out 1).trans rfl
            have hfz339_0 := blk_frozen BK312.out 0
            have hfz339_1 := blk_frozen BK312.out 1
            go_wp2
            go_meet
            case rel => exact ⟨_, (true), (by first | rfl | (simp; done) | (simp [*]; done)), H', ⟨by have := HJ29.out; have := HJ256.out; first | omega | exact Nat.le_refl _⟩, ⟨by (with_reducible repeat first|apply bn|apply bd|apply ba); exact BK284.out⟩, ⟨by (with_reducible repeat first|apply bn|apply bd|apply ba); exact BK285.out⟩, ⟨by (with_reducible repeat first|apply bn|apply bd|apply ba); exact BK289.out⟩, ⟨by (with_reducible repeat first|apply bn|apply bd|apply ba); exact BK293.out⟩, ⟨by (with_reducible repeat first|apply bn|apply bd|apply ba); exact BK297.out⟩, ⟨by (with_reducible repeat first|apply bn|apply bd|apply ba); exact BK301.out⟩, ⟨by (with_reducible repeat first|apply bn|apply bd|apply ba); exact BK305.out⟩, ⟨by (with_reducible repeat first|apply bn|apply bd|apply ba); exact BK312.out⟩, ⟨by repeat (first | (with_reducible first | exact HB.out | apply below_alloc | apply pw_below_drewN | apply below_drew1 | refine below_set ?_ GE284.out | refine below_set ?_ GE285.out | refine below_set ?_ GE289.out | refine below_set ?_ GE293.out | refine below_set ?_ GE297.out | refine below_set ?_ GE301.out | refine below_set ?_ GE305.out | refine below_set ?_ GE312.out) | exact HB.out)⟩⟩
           ·rw [if_neg c331] at H
            have c331b0 : ((decide (t309 > 0)) != (decide (t315 > 0))) = false := by simpa using c331
            (try (have c331b1 : decide ((decide (t309 > 0)) = (decide (t315 > 0))) = true := by simpa using c331))
            (try (have c331b2 : ((decide (t309 > 0)) == (decide (t315 > 0))) = true := by simpa using c331))
            clear c331
            (first | rw [c331b0] | (simp only [i64_w, i32_w]; rw [c331b0]) | skip)
            have H' := Aside0.mk H
            clear H
            have hnb340 := NB312_284.out
            have hnc340 := NB284_312.out
            have hnb341 := NB312_285.out
            have hnc341 := NB285_312.out
            have hnb342 := NB312_289.out
            have hnc342 := NB289_312.out
            have hnb343 := NB312_293.out
            have hnc343 := NB293_312.out
            have hnb344 := NB312_297.out
            have hnc344 := NB297_312.out
            have hnb345 := NB312_301.out
            have hnc345 := NB301_312.out
            have hnb346 := NB312_305.out
            have hnc346 := NB305_312.out
            have hcz347_0 : w330.cell? ⟨gb312, 0, none⟩ = some (.int .i64 t309) := (blk_cell BK312.out 0).trans rfl
            have hcz347_1 : w330.cell? ⟨gb312, 1, none⟩ = some (.int .i64 t310) := (blk_cell BK312.out 1).trans rfl
            have hfz347_0 := blk_frozen BK312.out 0
            have hfz347_1 := blk_frozen BK312.out 1
            go_wp2
            go_meet
            case rel => exact ⟨_, (((decide (t309 < 0)) != (decide (t315 < 0)))), (by first | rfl | (simp; done) | (simp [*]; done)), H', ⟨by have := HJ29.out; have := HJ256.out; first | omega | exact Nat.le_refl _⟩, ⟨by (with_reducible repeat first|apply bn|apply bd|apply ba); exact BK284.out⟩, ⟨by (with_reducible repeat first|apply bn|apply bd|apply ba); exact BK285.out⟩, ⟨by (with_reducible repeat first|apply bn|apply bd|apply ba); exact BK289.out⟩, ⟨by (with_reducible repeat first|apply bn|apply bd|apply ba); exact BK293.out⟩, ⟨by (with_reducible repeat first|apply bn|apply bd|apply ba); exact BK297.out⟩, ⟨by (with_reducible repeat first|apply bn|apply bd|apply ba); exact BK301.out⟩, ⟨by (with_reducible repeat first|apply bn|apply bd|apply ba); exact BK305.out⟩, ⟨by (with_reducible repeat first|apply bn|apply bd|apply ba); exact BK312.out⟩, ⟨by repeat (first | (with_reducible first | exact HB.out | apply below_alloc | apply pw_below_drewN | apply below_drew1 | refine below_set ?_ GE284.out | refine below_set ?_ GE285.out | refine below_set ?_ GE289.out | refine below_set ?_ GE293.out | refine below_set ?_ GE297.out | refine below_set ?_ GE301.out | refine below_set ?_ GE305.out | refine below_set ?_ GE312.out) | exact HB.out)⟩⟩
          case rest =>
           clear HC314;(try clear c3);(try clear c7);(try clear c7b0);(try clear c7b1);(try clear c7b2);(try clear c80);(try clear c80b0);(try clear c80b1);(try clear c80b2);(try clear c81);(try clear c81b0);(try clear c95);(try clear c95b0);(try clear c95b1);(try clear c95b2);(try clear c109);(try clear c109b0);(try clear c132);(try clear c134);(try clear c135);(try clear c208);(try clear c255);(try clear c281)
           (try clear c283);(try clear c312);(try clear c331);(try clear c331b0);(try clear c331b1);(try clear c331b2);(try clear hcz102_0 hcz102_1);(try clear hcz108_0 hcz108_1);(try clear hcz116_0 hcz116_1);(try clear hcz122_0 hcz122_1);(try clear hcz127_0 hcz127_1);(try clear hcz131_0 hcz131_1);(try clear hcz143_0 hcz143_1)
           (try clear hcz149_0 hcz149_1);(try clear hcz154_0 hcz154_1);(try clear hcz158_0 hcz158_1);(try clear hcz160_0 hcz160_1);(try clear hcz168_0 hcz168_1);(try clear hcz174_0 hcz174_1);(try clear hcz179_0 hcz179_1);(try clear hcz183_0 hcz183_1);(try clear hcz191_0 hcz191_1);(try clear hcz197_0)
           (try clear hcz197_1);(try clear hcz202_0 hcz202_1);(try clear hcz206_0 hcz206_1);(try clear hcz216_0 hcz216_1);(try clear hcz222_0 hcz222_1);(try clear hcz227_0 hcz227_1);(try clear hcz231_0 hcz231_1);(try clear hcz239_0 hcz239_1);(try clear hcz245_0 hcz245_1);(try clear hcz250_0 hcz250_1)
           (try clear hcz254_0 hcz254_1);(try clear hcz264_0 hcz264_1);(try clear hcz270_0 hcz270_1);(try clear hcz280_0 hcz280_1);(try clear hcz292_0 hcz292_1);(try clear hcz300_0 hcz300_1);(try clear hcz309_0 hcz309_1);(try clear hcz322_0 hcz322_1);(try clear hcz329_0 hcz329_1);(try clear hcz339_0)
           (try clear hcz339_1);(try clear hcz347_0 hcz347_1);(try clear hcz35_0 hcz35_1);(try clear hcz36_0 hcz36_1);(try clear hcz41_0 hcz41_1);(try clear hcz42_0 hcz42_1);(try clear hcz43_0 hcz43_1);(try clear hcz49_0 hcz49_1);(try clear hcz50_0 hcz50_1);(try clear hcz51_0 hcz51_1);(try clear hcz58_0)
           (try clear hcz58_1);(try clear hcz59_0 hcz59_1);(try clear hcz60_0 hcz60_1);(try clear hcz68_0 hcz68_1);(try clear hcz69_0 hcz69_1);(try clear hcz70_0 hcz70_1);(try clear hcz79_0 hcz79_1);(try clear hcz88_0 hcz88_1);(try clear hcz94_0 hcz94_1);(try clear hfz102_0 hfz102_1);(try clear hfz108_0)
           (try clear hfz108_1);(try clear hfz116_0 hfz116_1);(try clear hfz122_0 hfz122_1);(try clear hfz127_0 hfz127_1);(try clear hfz131_0 hfz131_1);(try clear hfz143_0 hfz143_1);(try clear hfz149_0 hfz149_1);(try clear hfz154_0 hfz154_1);(try clear hfz158_0 hfz158_1);(try clear hfz160_0 hfz160_1)
           (try clear hfz168_0 hfz168_1);(try clear hfz174_0 hfz174_1);(try clear hfz179_0 hfz179_1);(try clear hfz183_0 hfz183_1);(try clear hfz191_0 hfz191_1);(try clear hfz197_0 hfz197_1);(try clear hfz202_0 hfz202_1);(try clear hfz206_0 hfz206_1);(try clear hfz216_0 hfz216_1);(try clear hfz222_0)
           (try clear hfz222_1);(try clear hfz227_0 hfz227_1);(try clear hfz231_0 hfz231_1);(try clear hfz239_0 hfz239_1);(try clear hfz245_0 hfz245_1);(try clear hfz250_0 hfz250_1);(try clear hfz254_0 hfz254_1);(try clear hfz264_0 hfz264_1);(try clear hfz270_0 hfz270_1);(try clear hfz280_0 hfz280_1)
           (try clear hfz292_0 hfz292_1);(try clear hfz300_0 hfz300_1);(try clear hfz309_0 hfz309_1);(try clear hfz322_0 hfz322_1);(try clear hfz329_0 hfz329_1);(try clear hfz339_0 hfz339_1);(try clear hfz347_0 hfz347_1);(try clear hfz35_0 hfz35_1);(try clear hfz36_0 hfz36_1);(try clear hfz41_0)
           (try clear hfz41_1);(try clear hfz42_0 hfz42_1);(try clear hfz43_0 hfz43_1);(try clear hfz49_0 hfz49_1);(try clear hfz50_0 hfz50_1);(try clear hfz51_0 hfz51_1);(try clear hfz58_0 hfz58_1);(try clear hfz59_0 hfz59_1);(try clear hfz60_0 hfz60_1);(try clear hfz68_0 hfz68_1);(try clear hfz69_0)
           (try clear hfz69_1);(try clear hfz70_0 hfz70_1);(try clear hfz79_0 hfz79_1);(try clear hfz88_0 hfz88_1);(try clear hfz94_0 hfz94_1)
           obtain ⟨kq, x129_313, rfl, HA, HJ313, BK284, BK285, BK289, BK293, BK297, BK301, BK305, BK312, HB⟩ := hcut
           cases kq with
           | zero => exact absurd HA.out (by simp [laws_FnRatios.j2])
           | succ kj313 =>
            have H := HA.out
            clear HA
            simp only [laws_FnRatios.j2] at H
            by_cases c348 : x129_313 = true
            ·subst c348
             have H1 : (some false) = some r := by rw [if_pos rfl] at H; exact H
             clear H
             have H := H1
             clear H1
             exact absurd ((Option.some.inj H).trans htrue) (by decide)
            ·replace c348 := Bool.eq_false_iff.mpr c348
             subst c348
             have H1 : ((impl_AddRatios.f kj313 t309 t310 t282 t283).bind fun bt316 => (if bt316.2.2 = true then (if (!(bt316.1 == t280) || (!(bt316.2.1 == t281))) = true then (some false) else (laws_FnRatios.j3 kj313 l0 t280 t281 t282 t283)) else (some false))) = some r := by rw [if_neg (show ¬ (false = true) by decide)] at H; exact H
             clear H
             have H := H1
             clear H1
             replace H := Option.bind_eq_some_iff.mp H
             obtain ⟨⟨t316, t317, t318⟩, A3490, H⟩ := H
             replace H : (if t318 = true then (if (!(t316 == t280) || (!(t317 == t281))) = true then (some false) else (laws_FnRatios.j3 kj313 l0 t280 t281 t282 t283)) else (some false)) = some r := H
             have A349 := Aside0.mk A3490
             clear A3490
             by_cases c350 : t318 = true
             ·subst c350
              have H1 : (if (!(t316 == t280) || (!(t317 == t281))) = true then (some false) else (laws_FnRatios.j3 kj313 l0 t280 t281 t282 t283)) = some r := by rw [if_pos rfl] at H; exact H
              clear H
              have H := H1
              clear H1
              by_cases c351 : (!(t316 == t280) || (!(t317 == t281))) = true
              ·rw [if_pos c351] at H
               have c351b0 : (!(t316 == t280) || (!(t317 == t281))) = true := c351
               clear c351
               exact absurd ((Option.some.inj H).trans htrue) (by decide)
              ·rw [if_neg c351] at H
               have c351b0 : (!(t316 == t280) || (!(t317 == t281))) = false := by simpa using c351
               clear c351
               have H' := Aside0.mk H
               clear H
               have hnb384 := NB312_284.out
               have hnc384 := NB284_312.out
               have hnb385 := NB312_285.out
               have hnc385 := NB285_312.out
               have hnb386 := NB312_289.out
               have hnc386 := NB289_312.out
               have hnb387 := NB312_293.out
               have hnc387 := NB293_312.out
               have hnb388 := NB312_297.out
               have hnc388 := NB297_312.out
               have hnb389 := NB312_301.out
               have hnc389 := NB301_312.out
               have hnb390 := NB312_305.out
               have hnc390 := NB305_312.out
               have hcz391_0 : wc.cell? ⟨gb312, 0, none⟩ = some (.int .i64 t309) := (blk_cell BK312.out 0).trans rfl
               have hcz391_1 : wc.cell? ⟨gb312, 1, none⟩ = some (.int .i64 t310) := (blk_cell BK312.out 1).trans rfl
               have hfz391_0 := blk_frozen BK312.out 0
               have hfz391_1 := blk_frozen BK312.out 1
               have hnb392 := NB285_284.out
               have hnc392 := NB284_285.out
               have hnb393 := NB285_289.out
               have hnc393 := NB289_285.out
               have hnb394 := NB285_293.out
               have hnc394 := NB293_285.out
               have hnb395 := NB285_297.out
               have hnc395 := NB297_285.out
               have hnb396 := NB285_301.out
               have hnc396 := NB301_285.out
               have hnb397 := NB285_305.out
               have hnc397 := NB305_285.out
               have hcz398_0 : wc.cell? ⟨gb285, 0, none⟩ = some (.int .i64 t282) := (blk_cell BK285.out 0).trans rfl
               have hcz398_1 : wc.cell? ⟨gb285, 1, none⟩ = some (.int .i64 t283) := (blk_cell BK285.out 1).trans rfl
               have hfz398_0 := blk_frozen BK285.out 0
               have hfz398_1 := blk_frozen BK285.out 1
               go_wp2_with (first | ((with_reducible refine gate_callee (f := 24) rfl ?_); refine goesL_ (some 133) rfl rfl Try.func24 (by kernel_rfl) rfl #[.agg #[.int .i64 t309, .int .i64 t310], .agg #[.int .i64 t282, .int .i64 t283]] rfl (by (try simp only [List.map_toArray, List.map_cons, List.map_nil]); first|done|rfl) ?_; (with_reducible refine (impl_AddRatios.calls kj313 t309 t310 t282 t283 t316 t317 true _ A349.out).mono ?_); rintro e w399 ⟨rfl, hb⟩; refine ⟨_, rfl, ?_⟩; have n0_ := Aside0.mk (blk_below (g := gb284) (o := .cells #[.int .i64 t280, .int .i64 t281] 24 (0, 0)) (by (with_reducible repeat first|apply bn|apply bd|apply ba); exact BK284.out) hb); have n1_ := Aside0.mk (blk_below (g := gb285) (o := .cells #[.int .i64 t282, .int .i64 t283] 24 (0, 0)) (by (with_reducible repeat first|apply bn|apply bd|apply ba); exact BK285.out) hb); have n2_ := Aside0.mk (blk_below (g := gb289) (o := .cells #[.int .i64 t286, .int .i64 t287] 24 (0, 0)) (by (with_reducible repeat first|apply bn|apply bd|apply ba); exact BK289.out) hb); have n3_ := Aside0.mk (blk_below (g := gb293) (o := .cells #[.int .i64 t290, .int .i64 t291] 24 (0, 0)) (by (with_reducible repeat first|apply bn|apply bd|apply ba); exact BK293.out) hb); have n4_ := Aside0.mk (blk_below (g := gb297) (o := .cells #[.int .i64 t294, .int .i64 t295] 24 (0, 0)) (by (with_reducible repeat first|apply bn|apply bd|apply ba); exact BK297.out) hb); have n5_ := Aside0.mk (blk_below (g := gb301) (o := .cells #[.int .i64 t298, .int .i64 t299] 24 (0, 0)) (by (with_reducible repeat first|apply bn|apply bd|apply ba); exact BK301.out) hb); have n6_ := Aside0.mk (blk_below (g := gb305) (o := .cells #[.int .i64 t302, .int .i64 t303] 24 (0, 0)) (by (with_reducible repeat first|apply bn|apply bd|apply ba); exact BK305.out) hb); have n7_ := Aside0.mk (blk_below (g := gb312) (o := .cells #[.int .i64 t309, .int .i64 t310] 24 (0, 0)) (by (with_reducible repeat first|apply bn|apply bd|apply ba); exact BK312.out) hb); have n8_ := Aside0.mk (below_step (by repeat first|(with_reducible first|exact HB.out|apply la|apply ln|apply ld|refine ls ?_ (Aside0.out (by assumption)))|exact HB.out) hb); clear BK284; clear BK285; clear BK289; clear BK293; clear BK297; clear BK301; clear BK305; clear BK312; clear HB; have BK284 := n0_; have BK285 := n1_; have BK289 := n2_; have BK293 := n3_; have BK297 := n4_; have BK301 := n5_; have BK305 := n6_; have BK312 := n7_; have HB := n8_; clear n0_ n1_ n2_ n3_ n4_ n5_ n6_ n7_ n8_; (try clear hb)) | ((with_reducible refine gate_dst (N := 18) rfl ?_); refine box_event ?hg (N := 18) ?hd (cs := #[.int .i64 0, .int .i64 0]) (t := 24) ?hr ?_; (case hd => rfl); (case hg => rfl); (case hr => first | (go_simp; done) | (go_simp; rfl)); intro gb319 hg w400 hbox hb; have n0_ := Aside0.mk (blk_below (g := gb284) (o := .cells #[.int .i64 t280, .int .i64 t281] 24 (0, 0)) (by (with_reducible repeat first|apply bn|apply bd|apply ba); exact BK284.out) hb); have n1_ := Aside0.mk (blk_below (g := gb285) (o := .cells #[.int .i64 t282, .int .i64 t283] 24 (0, 0)) (by (with_reducible repeat first|apply bn|apply bd|apply ba); exact BK285.out) hb); have n2_ := Aside0.mk (blk_below (g := gb289) (o := .cells #[.int .i64 t286, .int .i64 t287] 24 (0, 0)) (by (with_reducible repeat first|apply bn|apply bd|apply ba); exact BK289.out) hb); have n3_ := Aside0.mk (blk_below (g := gb293) (o := .cells #[.int .i64 t290, .int .i64 t291] 24 (0, 0)) (by (with_reducible repeat first|apply bn|apply bd|apply ba); exact BK293.out) hb); have n4_ := Aside0.mk (blk_below (g := gb297) (o := .cells #[.int .i64 t294, .int .i64 t295] 24 (0, 0)) (by (with_reducible repeat first|apply bn|apply bd|apply ba); exact BK297.out) hb); have n5_ := Aside0.mk (blk_below (g := gb301) (o := .cells #[.int .i64 t298, .int .i64 t299] 24 (0, 0)) (by (with_reducible repeat first|apply bn|apply bd|apply ba); exact BK301.out) hb); have n6_ := Aside0.mk (blk_below (g := gb305) (o := .cells #[.int .i64 t302, .int .i64 t303] 24 (0, 0)) (by (with_reducible repeat first|apply bn|apply bd|apply ba); exact BK305.out) hb); have n7_ := Aside0.mk (blk_below (g := gb312) (o := .cells #[.int .i64 t309, .int .i64 t310] 24 (0, 0)) (by (with_reducible repeat first|apply bn|apply bd|apply ba); exact BK312.out) hb); have n8_ := Aside0.mk (below_step (by repeat first|(with_reducible first|exact HB.out|apply la|apply ln|apply ld|refine ls ?_ (Aside0.out (by assumption)))|exact HB.out) hb); have n9_ := Aside0.mk (hbox); have n10_ := Aside0.mk ((by rw [hg]; exact (below_size (by repeat first|(with_reducible first|exact HB.out|apply la|apply ln|apply ld|refine ls ?_ (Aside0.out (by assumption)))|exact HB.out)) : w.heap.size ≤ gb319)); have n11_ := Aside0.mk ((by rw [hg]; exact (below_size (by repeat first|(with_reducible first|exact HB.out|apply la|apply ln|apply ld|refine ls ?_ (Aside0.out (by assumption)))|exact HB.out)) : w.heap.size ≤ gb319)); have n12_ := Aside0.mk ((by rw [hg]; exact Nat.ne_of_lt (blk_lt (g := gb284) (o := .cells #[.int .i64 t280, .int .i64 t281] 24 (0, 0)) (by (with_reducible repeat first|apply bn|apply bd|apply ba); exact BK284.out)) : gb284 ≠ gb319)); have n13_ := Aside0.mk ((by rw [hg]; exact Nat.ne_of_gt (blk_lt (g := gb284) (o := .cells #[.int .i64 t280, .int .i64 t281] 24 (0, 0)) (by (with_reducible repeat first|apply bn|apply bd|apply ba); exact BK284.out)) : gb319 ≠ gb284)); have n14_ := Aside0.mk ((by rw [hg]; exact Nat.ne_of_lt (blk_lt (g := gb285) (o := .cells #[.int .i64 t282, .int .i64 t283] 24 (0, 0)) (by (with_reducible repeat first|apply bn|apply bd|apply ba); exact BK285.out)) : gb285 ≠ gb319)); have n15_ := Aside0.mk ((by rw [hg]; exact Nat.ne_of_gt (blk_lt (g := gb285) (o := .cells #[.int .i64 t282, .int .i64 t283] 24 (0, 0)) (by (with_reducible repeat first|apply bn|apply bd|apply ba); exact BK285.out)) : gb319 ≠ gb285)); have n16_ := Aside0.mk ((by rw [hg]; exact Nat.ne_of_lt (blk_lt (g := gb289) (o := .cells #[.int .i64 t286, .int .i64 t287] 24 (0, 0)) (by (with_reducible repeat first|apply bn|apply bd|apply ba); exact BK289.out)) : gb289 ≠ gb319)); have n17_ := Aside0.mk ((by rw [hg]; exact Nat.ne_of_gt (blk_lt (g := gb289) (o := .cells #[.int .i64 t286, .int .i64 t287] 24 (0, 0)) (by (with_reducible repeat first|apply bn|apply bd|apply ba); exact BK289.out)) : gb319 ≠ gb289)); have n18_ := Aside0.mk ((by rw [hg]; exact Nat.ne_of_lt (blk_lt (g := gb293) (o := .cells #[.int .i64 t290, .int .i64 t291] 24 (0, 0)) (by (with_reducible repeat first|apply bn|apply bd|apply ba); exact BK293.out)) : gb293 ≠ gb319)); have n19_ := Aside0.mk ((by rw [hg]; exact Nat.ne_of_gt (blk_lt (g := gb293) (o := .cells #[.int .i64 t290, .int .i64 t291] 24 (0, 0)) (by (with_reducible repeat first|apply bn|apply bd|apply ba); exact BK293.out)) : gb319 ≠ gb293)); have n20_ := Aside0.mk ((by rw [hg]; exact Nat.ne_of_lt (blk_lt (g := gb297) (o := .cells #[.int .i64 t294, .int .i64 t295] 24 (0, 0)) (by (with_reducible repeat first|apply bn|apply bd|apply ba); exact BK297.out)) : gb297 ≠ gb319)); have n21_ := Aside0.mk ((by rw [hg]; exact Nat.ne_of_gt (blk_lt (g := gb297) (o := .cells #[.int .i64 t294, .int .i64 t295] 24 (0, 0)) (by (with_reducible repeat first|apply bn|apply bd|apply ba); exact BK297.out)) : gb319 ≠ gb297)); have n22_ := Aside0.mk ((by rw [hg]; exact Nat.ne_of_lt (blk_lt (g := gb301) (o := .cells #[.int .i64 t298, .int .i64 t299] 24 (0, 0)) (by (with_reducible repeat first|apply bn|apply bd|apply ba); exact BK301.out)) : gb301 ≠ gb319)); have n23_ := Aside0.mk ((by rw [hg]; exact Nat.ne_of_gt (blk_lt (g := gb301) (o := .cells #[.int .i64 t298, .int .i64 t299] 24 (0, 0)) (by (with_reducible repeat first|apply bn|apply bd|apply ba); exact BK301.out)) : gb319 ≠ gb301)); have n24_ := Aside0.mk ((by rw [hg]; exact Nat.ne_of_lt (blk_lt (g := gb305) (o := .cells #[.int .i64 t302, .int .i64 t303] 24 (0, 0)) (by (with_reducible repeat first|apply bn|apply bd|apply ba); exact BK305.out)) : gb305 ≠ gb319)); have n25_ := Aside0.mk ((by rw [hg]; exact Nat.ne_of_gt (blk_lt (g := gb305) (o := .cells #[.int .i64 t302, .int .i64 t303] 24 (0, 0)) (by (with_reducible repeat first|apply bn|apply bd|apply ba); exact BK305.out)) : gb319 ≠ gb305)); have n26_ := Aside0.mk ((by rw [hg]; exact Nat.ne_of_lt (blk_lt (g := gb312) (o := .cells #[.int .i64 t309, .int .i64 t310] 24 (0, 0)) (by (with_reducible repeat first|apply bn|apply bd|apply ba); exact BK312.out)) : gb312 ≠ gb319)); have n27_ := Aside0.mk ((by rw [hg]; exact Nat.ne_of_gt (blk_lt (g := gb312) (o := .cells #[.int .i64 t309, .int .i64 t310] 24 (0, 0)) (by (with_reducible repeat first|apply bn|apply bd|apply ba); exact BK312.out)) : gb319 ≠ gb312)); clear BK284; clear BK285; clear BK289; clear BK293; clear BK297; clear BK301; clear BK305; clear BK312; clear HB; have BK284 := n0_; have BK285 := n1_; have BK289 := n2_; have BK293 := n3_; have BK297 := n4_; have BK301 := n5_; have BK305 := n6_; have BK312 := n7_; have HB := n8_; have BK319 := n9_; have GW319 := n10_; have GE319 := n11_; have NB284_319 := n12_; have NB319_284 := n13_; have NB285_319 := n14_; have NB319_285 := n15_; have NB289_319 := n16_; have NB319_289 := n17_; have NB293_319 := n18_; have NB319_293 := n19_; have NB297_319 := n20_; have NB319_297 := n21_; have NB301_319 := n22_; have NB319_301 := n23_; have NB305_319 := n24_; have NB319_305 := n25_; have NB312_319 := n26_; have NB319_312 := n27_; clear n0_ n1_ n2_ n3_ n4_ n5_ n6_ n7_ n8_ n9_ n10_ n11_ n12_ n13_ n14_ n15_ n16_ n17_ n18_ n19_ n20_ n21_ n22_ n23_ n24_ n25_ n26_ n27_; clear hb hbox hg; have hnb401 := NB319_284.out; have hnc401 := NB284_319.out; have hnb402 := NB319_285.out; have hnc402 := NB285_319.out; have hnb403 := NB319_289.out; have hnc403 := NB289_319.out; have hnb404 := NB319_293.out; have hnc404 := NB293_319.out; have hnb405 := NB319_297.out; have hnc405 := NB297_319.out; have hnb406 := NB319_301.out; have hnc406 := NB301_319.out; have hnb407 := NB319_305.out; have hnc407 := NB305_319.out; have hnb408 := NB319_312.out; have hnc408 := NB312_319.out; have hcz409_0 : w400.cell? ⟨gb319, 0, none⟩ = some (.int .i64 0) := (blk_cell BK319.out 0).trans rfl; have hcz409_1 : w400.cell? ⟨gb319, 1, none⟩ = some (.int .i64 0) := (blk_cell BK319.out 1).trans rfl; have hfz409_0 := blk_frozen BK319.out 0; have hfz409_1 := blk_frozen BK319.out 1; have hnb410 := NB284_289.out; have hnc410 := NB289_284.out; have hnb411 := NB284_293.out; have hnc411 := NB293_284.out; have hnb412 := NB284_297.out; have hnc412 := NB297_284.out; have hnb413 := NB284_301.out; have hnc413 := NB301_284.out; have hnb414 := NB284_305.out; have hnc414 := NB305_284.out; have hcz415_0 : w400.cell? ⟨gb284, 0, none⟩ = some (.int .i64 t280) := (blk_cell BK284.out 0).trans rfl; have hcz415_1 : w400.cell? ⟨gb284, 1, none⟩ = some (.int .i64 t281) := (blk_cell BK284.out 1).trans rfl; have hfz415_0 := blk_frozen BK284.out 0; have hfz415_1 := blk_frozen BK284.out 1))
               go_meet
               case rel => exact ⟨_, H', ⟨by have := HJ29.out; have := HJ256.out; have := HJ313.out; first | omega | exact Nat.le_refl _⟩, ⟨by (with_reducible repeat first|apply bn|apply bd|apply ba); refine blk_far ?_ NB284_319.out _; (with_reducible repeat first|apply bn|apply bd|apply ba); refine blk_far ?_ NB284_319.out _; (with_reducible repeat first|apply bn|apply bd|apply ba); exact BK284.out⟩, ⟨by (with_reducible repeat first|apply bn|apply bd|apply ba); refine blk_far ?_ NB285_319.out _; (with_reducible repeat first|apply bn|apply bd|apply ba); refine blk_far ?_ NB285_319.out _; (with_reducible repeat first|apply bn|apply bd|apply ba); exact BK285.out⟩, ⟨by (with_reducible repeat first|apply bn|apply bd|apply ba); refine blk_far ?_ NB289_319.out _; (with_reducible repeat first|apply bn|apply bd|apply ba); refine blk_far ?_ NB289_319.out _; (with_reducible repeat first|apply bn|apply bd|apply ba); exact BK289.out⟩, ⟨by (with_reducible repeat first|apply bn|apply bd|apply ba); refine blk_far ?_ NB293_319.out _; (with_reducible repeat first|apply bn|apply bd|apply ba); refine blk_far ?_ NB293_319.out _; (with_reducible repeat first|apply bn|apply bd|apply ba); exact BK293.out⟩, ⟨by (with_reducible repeat first|apply bn|apply bd|apply ba); refine blk_far ?_ NB297_319.out _; (with_reducible repeat first|apply bn|apply bd|apply ba); refine blk_far ?_ NB297_319.out _; (with_reducible repeat first|apply bn|apply bd|apply ba); exact BK297.out⟩, ⟨by (with_reducible repeat first|apply bn|apply bd|apply ba); refine blk_far ?_ NB301_319.out _; (with_reducible repeat first|apply bn|apply bd|apply ba); refine blk_far ?_ NB301_319.out _; (with_reducible repeat first|apply bn|apply bd|apply ba); exact BK301.out⟩, ⟨by (with_reducible repeat first|apply bn|apply bd|apply ba); refine blk_far ?_ NB305_319.out _; (with_reducible repeat first|apply bn|apply bd|apply ba); refine blk_far ?_ NB305_319.out _; (with_reducible repeat first|apply bn|apply bd|apply ba); exact BK305.out⟩, ⟨by (with_reducible repeat first|apply bn|apply bd|apply ba); refine blk_far ?_ NB312_319.out _; (with_reducible repeat first|apply bn|apply bd|apply ba); refine blk_far ?_ NB312_319.out _; (with_reducible repeat first|apply bn|apply bd|apply ba); exact BK312.out⟩, ⟨by repeat (first | (with_reducible first | exact HB.out | apply below_alloc | apply pw_below_drewN | apply below_drew1 | refine below_set ?_ GE284.out | refine below_set ?_ GE285.out | refine below_set ?_ GE289.out | refine below_set ?_ GE293.out | refine below_set ?_ GE297.out | refine below_set ?_ GE301.out | refine below_set ?_ GE305.out | refine below_set ?_ GE312.out | refine below_set ?_ GE319.out) | exact HB.out)⟩⟩
             ·replace c350 := Bool.eq_false_iff.mpr c350
              subst c350
              have H1 : (some false) = some r := by rw [if_neg (show ¬ (false = true) by decide)] at H; exact H
              clear H
              have H := H1
              clear H1
              exact absurd ((Option.some.inj H).trans htrue) (by decide)
         ·replace c312 := Bool.eq_false_iff.mpr c312
          subst c312
          have H1 : (laws_FnRatios.j3 kj256 l0 t280 t281 t282 t283) = some r := by rw [if_neg (show ¬ (false = true) by decide)] at H; exact H
          clear H
          have H := H1
          clear H1
          have H' := Aside0.mk H
          clear H
          go_wp2
          go_meet
          case rel => exact ⟨_, H', ⟨by have := HJ29.out; have := HJ256.out; first | omega | exact Nat.le_refl _⟩, ⟨by (with_reducible repeat first|apply bn|apply bd|apply ba); exact BK284.out⟩, ⟨by (with_reducible repeat first|apply bn|apply bd|apply ba); exact BK285.out⟩, ⟨by (with_reducible repeat first|apply bn|apply bd|apply ba); exact BK289.out⟩, ⟨by (with_reducible repeat first|apply bn|apply bd|apply ba); exact BK293.out⟩, ⟨by (with_reducible repeat first|apply bn|apply bd|apply ba); exact BK297.out⟩, ⟨by (with_reducible repeat first|apply bn|apply bd|apply ba); exact BK301.out⟩, ⟨by (with_reducible repeat first|apply bn|apply bd|apply ba); exact BK305.out⟩, ⟨by (with_reducible repeat first|apply bn|apply bd|apply ba); exact BK312.out⟩, ⟨by repeat (first | (with_reducible first | exact HB.out | apply below_alloc | apply pw_below_drewN | apply below_drew1 | refine below_set ?_ GE284.out | refine below_set ?_ GE285.out | refine below_set ?_ GE289.out | refine below_set ?_ GE293.out | refine below_set ?_ GE297.out | refine below_set ?_ GE301.out | refine below_set ?_ GE305.out | refine below_set ?_ GE312.out) | exact HB.out)⟩⟩
        case rest =>
         clear HC311;(try clear c3);(try clear c132);(try clear c134);(try clear c135);(try clear c208);(try clear c255);(try clear c281);(try clear c283);(try clear c312);(try clear c331);(try clear c331b0);(try clear c331b1);(try clear c331b2);(try clear c348);(try clear c350);(try clear c351);(try clear c351b0);(try clear hcz102_0 hcz102_1);(try clear hcz108_0 hcz108_1);(try clear hcz116_0)
         (try clear hcz116_1);(try clear hcz122_0 hcz122_1);(try clear hcz127_0 hcz127_1);(try clear hcz131_0 hcz131_1);(try clear hcz143_0 hcz143_1);(try clear hcz149_0 hcz149_1);(try clear hcz154_0 hcz154_1);(try clear hcz158_0 hcz158_1);(try clear hcz160_0 hcz160_1);(try clear hcz168_0 hcz168_1)
         (try clear hcz174_0 hcz174_1);(try clear hcz179_0 hcz179_1);(try clear hcz183_0 hcz183_1);(try clear hcz191_0 hcz191_1);(try clear hcz197_0 hcz197_1);(try clear hcz202_0 hcz202_1);(try clear hcz206_0 hcz206_1);(try clear hcz216_0 hcz216_1);(try clear hcz222_0 hcz222_1);(try clear hcz227_0)
         (try clear hcz227_1);(try clear hcz231_0 hcz231_1);(try clear hcz239_0 hcz239_1);(try clear hcz245_0 hcz245_1);(try clear hcz250_0 hcz250_1);(try clear hcz254_0 hcz254_1);(try clear hcz264_0 hcz264_1);(try clear hcz270_0 hcz270_1);(try clear hcz280_0 hcz280_1);(try clear hcz292_0 hcz292_1)
         (try clear hcz300_0 hcz300_1);(try clear hcz309_0 hcz309_1);(try clear hcz322_0 hcz322_1);(try clear hcz329_0 hcz329_1);(try clear hcz339_0 hcz339_1);(try clear hcz347_0 hcz347_1);(try clear hcz35_0 hcz35_1);(try clear hcz36_0 hcz36_1);(try clear hcz391_0 hcz391_1);(try clear hcz398_0)
         (try clear hcz398_1);(try clear hcz409_0 hcz409_1);(try clear hcz415_0 hcz415_1);(try clear hcz41_0 hcz41_1);(try clear hcz42_0 hcz42_1);(try clear hcz43_0 hcz43_1);(try clear hcz49_0 hcz49_1);(try clear hcz50_0 hcz50_1);(try clear hcz51_0 hcz51_1);(try clear hcz58_0 hcz58_1);(try clear hcz59_0)
         (try clear hcz59_1);(try clear hcz60_0 hcz60_1);(try clear hcz68_0 hcz68_1);(try clear hcz69_0 hcz69_1);(try clear hcz70_0 hcz70_1);(try clear hcz79_0 hcz79_1);(try clear hcz88_0 hcz88_1);(try clear hcz94_0 hcz94_1);(try clear hfz102_0 hfz102_1);(try clear hfz108_0 hfz108_1);(try clear hfz116_0)
         (try clear hfz116_1);(try clear hfz122_0 hfz122_1);(try clear hfz127_0 hfz127_1);(try clear hfz131_0 hfz131_1);(try clear hfz143_0 hfz143_1);(try clear hfz149_0 hfz149_1);(try clear hfz154_0 hfz154_1);(try clear hfz158_0 hfz158_1);(try clear hfz160_0 hfz160_1);(try clear hfz168_0 hfz168_1)
         (try clear hfz174_0 hfz174_1);(try clear hfz179_0 hfz179_1);(try clear hfz183_0 hfz183_1);(try clear hfz191_0 hfz191_1);(try clear hfz197_0 hfz197_1);(try clear hfz202_0 hfz202_1);(try clear hfz206_0 hfz206_1);(try clear hfz216_0 hfz216_1);(try clear hfz222_0 hfz222_1);(try clear hfz227_0)
         (try clear hfz227_1);(try clear hfz231_0 hfz231_1);(try clear hfz239_0 hfz239_1);(try clear hfz245_0 hfz245_1);(try clear hfz250_0 hfz250_1);(try clear hfz254_0 hfz254_1);(try clear hfz264_0 hfz264_1);(try clear hfz270_0 hfz270_1);(try clear hfz280_0 hfz280_1);(try clear hfz292_0 hfz292_1)
         (try clear hfz300_0 hfz300_1);(try clear hfz309_0 hfz309_1);(try clear hfz322_0 hfz322_1);(try clear hfz329_0 hfz329_1);(try clear hfz339_0 hfz339_1);(try clear hfz347_0 hfz347_1);(try clear hfz35_0 hfz35_1);(try clear hfz36_0 hfz36_1);(try clear hfz391_0 hfz391_1);(try clear hfz398_0)
         (try clear hfz398_1);(try clear hfz409_0 hfz409_1);(try clear hfz415_0 hfz415_1);(try clear hfz41_0 hfz41_1);(try clear hfz42_0 hfz42_1);(try clear hfz43_0 hfz43_1);(try clear hfz49_0 hfz49_1);(try clear hfz50_0 hfz50_1);(try clear hfz51_0 hfz51_1);(try clear hfz58_0 hfz58_1);(try clear hfz59_0)
         (try clear hfz59_1);(try clear hfz60_0 hfz60_1);(try clear hfz68_0 hfz68_1);(try clear hfz69_0 hfz69_1);(try clear hfz70_0 hfz70_1);(try clear hfz79_0 hfz79_1);(try clear hfz88_0 hfz88_1);(try clear hfz94_0 hfz94_1)
         obtain ⟨kq, HA, HJ310, BK284, BK285, BK289, BK293, BK297, BK301, BK305, BK312, HB⟩ := hcut
         cases kq with
         | zero => exact absurd HA.out (by simp [laws_FnRatios.j3])
         | succ kj310 =>
          have H := HA.out
          clear HA
          simp only [laws_FnRatios.j3] at H
          replace H := Option.bind_eq_some_iff.mp H
          obtain ⟨⟨t320, t321⟩, A4420, H⟩ := H
          replace H : ((impl_MakeRatio.f kj310 t320 t321).bind fun bt322 => (if bt322.2.2 = true then ((impl_IsRatio.f kj310 bt322.1 bt322.2.1).bind fun t326 => (if t326 = true then (if (wrap64 (bt322.1 * t321)) = (wrap64 (t320 * bt322.2.1)) then ((impl_CompareRatios.f kj310 t280 t281 t282 t283).bind fun t327 => ((impl_CompareRatios.f kj310 t282 t283 t280 t281).bind fun t328 => (some (t327 == (wrap64 (-t328)))))) else (some false)) else (some false))) else ((impl_CompareRatios.f kj310 t280 t281 t282 t283).bind fun t329 => ((impl_CompareRatios.f kj310 t282 t283 t280 t281).bind fun t330 => (some (t329 == (wrap64 (-t330)))))))) = some r := H
          have A442 := Aside0.mk A4420
          clear A4420
          replace H := Option.bind_eq_some_iff.mp H
          obtain ⟨⟨t322, t323, t324⟩, A4430, H⟩ := H
          replace H : (if t324 = true then ((impl_IsRatio.f kj310 t322 t323).bind fun t326 => (if t326 = true then (if (wrap64 (t322 * t321)) = (wrap64 (t320 * t323)) then ((impl_CompareRatios.f kj310 t280 t281 t282 t283).bind fun t327 => ((impl_CompareRatios.f kj310 t282 t283 t280 t281).bind fun t328 => (some (t327 == (wrap64 (-t328)))))) else (some false)) else (some false))) else ((impl_CompareRatios.f kj310 t280 t281 t282 t283).bind fun t329 => ((impl_CompareRatios.f kj310 t282 t283 t280 t281).bind fun t330 => (some (t329 == (wrap64 (-t330))))))) = some r := H
          have A443 := Aside0.mk A4430
          clear A4430
          by_cases c444 : t324 = true
          ·subst c444
           have H1 : ((impl_IsRatio.f kj310 t322 t323).bind fun t326 => (if t326 = true then (if (wrap64 (t322 * t321)) = (wrap64 (t320 * t323)) then ((impl_CompareRatios.f kj310 t280 t281 t282 t283).bind fun t327 => ((impl_CompareRatios.f kj310 t282 t283 t280 t281).bind fun t328 => (some (t327 == (wrap64 (-t328)))))) else (some false)) else (some false))) = some r := by rw [if_pos rfl] at H; exact H
           clear H
           have H := H1
           clear H1
           replace H := Option.bind_eq_some_iff.mp H
           obtain ⟨t326, A4450, H⟩ := H
           replace H : (if t326 = true then (if (wrap64 (t322 * t321)) = (wrap64 (t320 * t323)) then ((impl_CompareRatios.f kj310 t280 t281 t282 t283).bind fun t327 => ((impl_CompareRatios.f kj310 t282 t283 t280 t281).bind fun t328 => (some (t327 == (wrap64 (-t328)))))) else (some false)) else (some false)) = some r := H
           have A445 := Aside0.mk A4450
           clear A4450
           by_cases c446 : t326 = true
           ·subst c446
            have H1 : (if (wrap64 (t322 * t321)) = (wrap64 (t320 * t323)) then ((impl_CompareRatios.f kj310 t280 t281 t282 t283).bind fun t327 => ((impl_CompareRatios.f kj310 t282 t283 t280 t281).bind fun t328 => (some (t327 == (wrap64 (-t328)))))) else (some false)) = some r := by rw [if_pos rfl] at H; exact H
            clear H
            have H := H1
            clear H1
            by_cases c447 : (wrap64 (t322 * t321)) = (wrap64 (t320 * t323))
            ·rw [if_pos c447] at H
             have c447b0 : ((wrap64 (t322 * t321)) == (wrap64 (t320 * t323))) = true := beq_iff_eq.mpr c447
             have c447b1 : ((wrap64 (t322 * t321)) != (wrap64 (t320 * t323))) = false := bne_eq_false_iff_eq.mpr c447
             clear c447
             replace H := Option.bind_eq_some_iff.mp H
             obtain ⟨t327, A4480, H⟩ := H
             replace H : ((impl_CompareRatios.f kj310 t282 t283 t280 t281).bind fun t328 => (some (t327 == (wrap64 (-t328))))) = some r := H
             have A448 := Aside0.mk A4480
             clear A4480
             replace H := Option.bind_eq_some_iff.mp H
             obtain ⟨t328, A4490, H⟩ := H
             replace H : (some (t327 == (wrap64 (-t328)))) = some r := H
             have A449 := Aside0.mk A4490
             clear A4490;clear htrue
             obtain rfl := Option.some.inj H
             try go_wp2_with (first | ((with_reducible refine gate_callee (f := 63) rfl ?_); refine goesL_ (some 145) rfl rfl Try.func63 (by kernel_rfl) rfl #[.slice A0 l0.length c0] rfl (by (try simp only [List.map_toArray, List.map_cons, List.map_nil]); first|done|rfl) ?_; (with_reducible refine (spec_DrawMakeRatio.calls kj310 _ _ l0 t320 t321 _ ?side1 ?side2 A442.out).mono ?_); (case side1 => repeat (first | exact (Kd.C_below HR0.out HB.out) | (with_reducible refine Kd.C_alloc ?_ _) | (with_reducible refine Kd.C_drewN ?_ _) | (with_reducible refine Kd.C_drew ?_))); (case side2 => exact HC0.out); rintro e w450 ⟨rfl, hb⟩; refine ⟨_, rfl, ?_⟩; have n0_ := Aside0.mk (blk_below (g := gb284) (o := .cells #[.int .i64 t280, .int .i64 t281] 24 (0, 0)) (by (with_reducible repeat first|apply bn|apply bd|apply ba); exact BK284.out) hb); have n1_ := Aside0.mk (blk_below (g := gb285) (o := .cells #[.int .i64 t282, .int .i64 t283] 24 (0, 0)) (by (with_reducible repeat first|apply bn|apply bd|apply ba); exact BK285.out) hb); have n2_ := Aside0.mk (blk_below (g := gb289) (o := .cells #[.int .i64 t286, .int .i64 t287] 24 (0, 0)) (by (with_reducible repeat first|apply bn|apply bd|apply ba); exact BK289.out) hb); have n3_ := Aside0.mk (blk_below (g := gb293) (o := .cells #[.int .i64 t290, .int .i64 t291] 24 (0, 0)) (by (with_reducible repeat first|apply bn|apply bd|apply ba); exact BK293.out) hb); have n4_ := Aside0.mk (blk_below (g := gb297) (o := .cells #[.int .i64 t294, .int .i64 t295] 24 (0, 0)) (by (with_reducible repeat first|apply bn|apply bd|apply ba); exact BK297.out) hb); have n5_ := Aside0.mk (blk_below (g := gb301) (o := .cells #[.int .i64 t298, .int .i64 t299] 24 (0, 0)) (by (with_reducible repeat first|apply bn|apply bd|apply ba); exact BK301.out) hb); have n6_ := Aside0.mk (blk_below (g := gb305) (o := .cells #[.int .i64 t302, .int .i64 t303] 24 (0, 0)) (by (with_reducible repeat first|apply bn|apply bd|apply ba); exact BK305.out) hb); have n7_ := Aside0.mk (blk_below (g := gb312) (o := .cells #[.int .i64 t309, .int .i64 t310] 24 (0, 0)) (by (with_reducible repeat first|apply bn|apply bd|apply ba); exact BK312.out) hb); have n8_ := Aside0.mk (below_step (by repeat first|(with_reducible first|exact HB.out|apply la|apply ln|apply ld|refine ls ?_ (Aside0.out (by assumption)))|exact HB.out) hb); clear BK284; clear BK285; clear BK289; clear BK293; clear BK297; clear BK301; clear BK305; clear BK312; clear HB; have BK284 := n0_; have BK285 := n1_; have BK289 := n2_; have BK293 := n3_; have BK297 := n4_; have BK301 := n5_; have BK305 := n6_; have BK312 := n7_; have HB := n8_; clear n0_ n1_ n2_ n3_ n4_ n5_ n6_ n7_ n8_; (try clear hb)) | ((with_reducible refine gate_callee (f := 22) rfl ?_); refine goesL_ (some 151) rfl rfl Try.func22 (by kernel_rfl) rfl #[.int .i64 t320, .int .i64 t321] rfl (by (try simp only [List.map_toArray, List.map_cons, List.map_nil]); first|done|rfl) ?_; (with_reducible refine (impl_MakeRatio.calls kj310 t320 t321 t322 t323 true _ A443.out).mono ?_); rintro e w451 ⟨rfl, hb⟩; refine ⟨_, rfl, ?_⟩; have n0_ := Aside0.mk (blk_below (g := gb284) (o := .cells #[.int .i64 t280, .int .i64 t281] 24 (0, 0)) (by (with_reducible repeat first|apply bn|apply bd|apply ba); exact BK284.out) hb); have n1_ := Aside0.mk (blk_below (g := gb285) (o := .cells #[.int .i64 t282, .int .i64 t283] 24 (0, 0)) (by (with_reducible repeat first|apply bn|apply bd|apply ba); exact BK285.out) hb); have n2_ := Aside0.mk (blk_below (g := gb289) (o := .cells #[.int .i64 t286, .int .i64 t287] 24 (0, 0)) (by (with_reducible repeat first|apply bn|apply bd|apply ba); exact BK289.out) hb); have n3_ := Aside0.mk (blk_below (g := gb293) (o := .cells #[.int .i64 t290, .int .i64 t291] 24 (0, 0)) (by (with_reducible repeat first|apply bn|apply bd|apply ba); exact BK293.out) hb); have n4_ := Aside0.mk (blk_below (g := gb297) (o := .cells #[.int .i64 t294, .int .i64 t295] 24 (0, 0)) (by (with_reducible repeat first|apply bn|apply bd|apply ba); exact BK297.out) hb); have n5_ := Aside0.mk (blk_below (g := gb301) (o := .cells #[.int .i64 t298, .int .i64 t299] 24 (0, 0)) (by (with_reducible repeat first|apply bn|apply bd|apply ba); exact BK301.out) hb); have n6_ := Aside0.mk (blk_below (g := gb305) (o := .cells #[.int .i64 t302, .int .i64 t303] 24 (0, 0)) (by (with_reducible repeat first|apply bn|apply bd|apply ba); exact BK305.out) hb); have n7_ := Aside0.mk (blk_below (g := gb312) (o := .cells #[.int .i64 t309, .int .i64 t310] 24 (0, 0)) (by (with_reducible repeat first|apply bn|apply bd|apply ba); exact BK312.out) hb); have n8_ := Aside0.mk (below_step (by repeat first|(with_reducible first|exact HB.out|apply la|apply ln|apply ld|refine ls ?_ (Aside0.out (by assumption)))|exact HB.out) hb); clear BK284; clear BK285; clear BK289; clear BK293; clear BK297; clear BK301; clear BK305; clear BK312; clear HB; have BK284 := n0_; have BK285 := n1_; have BK289 := n2_; have BK293 := n3_; have BK297 := n4_; have BK301 := n5_; have BK305 := n6_; have BK312 := n7_; have HB := n8_; clear n0_ n1_ n2_ n3_ n4_ n5_ n6_ n7_ n8_; (try clear hb)) | ((with_reducible refine gate_dst (N := 22) rfl ?_); refine box_event ?hg (N := 22) ?hd (cs := #[.int .i64 0, .int .i64 0]) (t := 24) ?hr ?_; (case hd => rfl); (case hg => rfl); (case hr => first | (go_simp; done) | (go_simp; rfl)); intro gb325 hg w452 hbox hb; have n0_ := Aside0.mk (blk_below (g := gb284) (o := .cells #[.int .i64 t280, .int .i64 t281] 24 (0, 0)) (by (with_reducible repeat first|apply bn|apply bd|apply ba); exact BK284.out) hb); have n1_ := Aside0.mk (blk_below (g := gb285) (o := .cells #[.int .i64 t282, .int .i64 t283] 24 (0, 0)) (by (with_reducible repeat first|apply bn|apply bd|apply ba); exact BK285.out) hb); have n2_ := Aside0.mk (blk_below (g := gb289) (o := .cells #[.int .i64 t286, .int .i64 t287] 24 (0, 0)) (by (with_reducible repeat first|apply bn|apply bd|apply ba); exact BK289.out) hb); have n3_ := Aside0.mk (blk_below (g := gb293) (o := .cells #[.int .i64 t290, .int .i64 t291] 24 (0, 0)) (by (with_reducible repeat first|apply bn|apply bd|apply ba); exact BK293.out) hb); have n4_ := Aside0.mk (blk_below (g := gb297) (o := .cells #[.int .i64 t294, .int .i64 t295] 24 (0, 0)) (by (with_reducible repeat first|apply bn|apply bd|apply ba); exact BK297.out) hb); have n5_ := Aside0.mk (blk_below (g := gb301) (o := .cells #[.int .i64 t298, .int .i64 t299] 24 (0, 0)) (by (with_reducible repeat first|apply bn|apply bd|apply ba); exact BK301.out) hb); have n6_ := Aside0.mk (blk_below (g := gb305) (o := .cells #[.int .i64 t302, .int .i64 t303] 24 (0, 0)) (by (with_reducible repeat first|apply bn|apply bd|apply ba); exact BK305.out) hb); have n7_ := Aside0.mk (blk_below (g := gb312) (o := .cells #[.int .i64 t309, .int .i64 t310] 24 (0, 0)) (by (with_reducible repeat first|apply bn|apply bd|apply ba); exact BK312.out) hb); have n8_ := Aside0.mk (below_step (by repeat first|(with_reducible first|exact HB.out|apply la|apply ln|apply ld|refine ls ?_ (Aside0.out (by assumption)))|exact HB.out) hb); have n9_ := Aside0.mk (hbox); have n10_ := Aside0.mk ((by rw [hg]; exact (below_size (by repeat first|(with_reducible first|exact HB.out|apply la|apply ln|apply ld|refine ls ?_ (Aside0.out (by assumption)))|exact HB.out)) : w.heap.size ≤ gb325)); have n11_ := Aside0.mk ((by rw [hg]; exact (below_size (by repeat first|(with_reducible first|exact HB.out|apply la|apply ln|apply ld|refine ls ?_ (Aside0.out (by assumption)))|exact HB.out)) : w.heap.size ≤ gb325)); have n12_ := Aside0.mk ((by rw [hg]; exact Nat.ne_of_lt (blk_lt (g := gb284) (o := .cells #[.int .i64 t280, .int .i64 t281] 24 (0, 0)) (by (with_reducible repeat first|apply bn|apply bd|apply ba); exact BK284.out)) : gb284 ≠ gb325)); have n13_ := Aside0.mk ((by rw [hg]; exact Nat.ne_of_gt (blk_lt (g := gb284) (o := .cells #[.int .i64 t280, .int .i64 t281] 24 (0, 0)) (by (with_reducible repeat first|apply bn|apply bd|apply ba); exact BK284.out)) : gb325 ≠ gb284)); have n14_ := Aside0.mk ((by rw [hg]; exact Nat.ne_of_lt (blk_lt (g := gb285) (o := .cells #[.int .i64 t282, .int .i64 t283] 24 (0, 0)) (by (with_reducible repeat first|apply bn|apply bd|apply ba); exact BK285.out)) : gb285 ≠ gb325)); have n15_ := Aside0.mk ((by rw [hg]; exact Nat.ne_of_gt (blk_lt (g := gb285) (o := .cells #[.int .i64 t282, .int .i64 t283] 24 (0, 0)) (by (with_reducible repeat first|apply bn|apply bd|apply ba); exact BK285.out)) : gb325 ≠ gb285)); have n16_ := Aside0.mk ((by rw [hg]; exact Nat.ne_of_lt (blk_lt (g := gb289) (o := .cells #[.int .i64 t286, .int .i64 t287] 24 (0, 0)) (by (with_reducible repeat first|apply bn|apply bd|apply ba); exact BK289.out)) : gb289 ≠ gb325)); have n17_ := Aside0.mk ((by rw [hg]; exact Nat.ne_of_gt (blk_lt (g := gb289) (o := .cells #[.int .i64 t286, .int .i64 t287] 24 (0, 0)) (by (with_reducible repeat first|apply bn|apply bd|apply ba); exact BK289.out)) : gb325 ≠ gb289)); have n18_ := Aside0.mk ((by rw [hg]; exact Nat.ne_of_lt (blk_lt (g := gb293) (o := .cells #[.int .i64 t290, .int .i64 t291] 24 (0, 0)) (by (with_reducible repeat first|apply bn|apply bd|apply ba); exact BK293.out)) : gb293 ≠ gb325)); have n19_ := Aside0.mk ((by rw [hg]; exact Nat.ne_of_gt (blk_lt (g := gb293) (o := .cells #[.int .i64 t290, .int .i64 t291] 24 (0, 0)) (by (with_reducible repeat first|apply bn|apply bd|apply ba); exact BK293.out)) : gb325 ≠ gb293)); have n20_ := Aside0.mk ((by rw [hg]; exact Nat.ne_of_lt (blk_lt (g := gb297) (o := .cells #[.int .i64 t294, .int .i64 t295] 24 (0, 0)) (by (with_reducible repeat first|apply bn|apply bd|apply ba); exact BK297.out)) : gb297 ≠ gb325)); have n21_ := Aside0.mk ((by rw [hg]; exact Nat.ne_of_gt (blk_lt (g := gb297) (o := .cells #[.int .i64 t294, .int .i64 t295] 24 (0, 0)) (by (with_reducible repeat first|apply bn|apply bd|apply ba); exact BK297.out)) : gb325 ≠ gb297)); have n22_ := Aside0.mk ((by rw [hg]; exact Nat.ne_of_lt (blk_lt (g := gb301) (o := .cells #[.int .i64 t298, .int .i64 t299] 24 (0, 0)) (by (with_reducible repeat first|apply bn|apply bd|apply ba); exact BK301.out)) : gb301 ≠ gb325)); have n23_ := Aside0.mk ((by rw [hg]; exact Nat.ne_of_gt (blk_lt (g := gb301) (o := .cells #[.int .i64 t298, .int .i64 t299] 24 (0, 0)) (by (with_reducible repeat first|apply bn|apply bd|apply ba); exact BK301.out)) : gb325 ≠ gb301)); have n24_ := Aside0.mk ((by rw [hg]; exact Nat.ne_of_lt (blk_lt (g := gb305) (o := .cells #[.int .i64 t302, .int .i64 t303] 24 (0, 0)) (by (with_reducible repeat first|apply bn|apply bd|apply ba); exact BK305.out)) : gb305 ≠ gb325)); have n25_ := Aside0.mk ((by rw [hg]; exact Nat.ne_of_gt (blk_lt (g := gb305) (o := .cells #[.int .i64 t302, .int .i64 t303] 24 (0, 0)) (by (with_reducible repeat first|apply bn|apply bd|apply ba); exact BK305.out)) : gb325 ≠ gb305)); have n26_ := Aside0.mk ((by rw [hg]; exact Nat.ne_of_lt (blk_lt (g := gb312) (o := .cells #[.int .i64 t309, .int .i64 t310] 24 (0, 0)) (by (with_reducible repeat first|apply bn|apply bd|apply ba); exact BK312.out)) : gb312 ≠ gb325)); have n27_ := Aside0.mk ((by rw [hg]; exact Nat.ne_of_gt (blk_lt (g := gb312) (o := .cells #[.int .i64 t309, .int .i64 t310] 24 (0, 0)) (by (with_reducible repeat first|apply bn|apply bd|apply ba); exact BK312.out)) : gb325 ≠ gb312)); clear BK284; clear BK285; clear BK289; clear BK293; clear BK297; clear BK301; clear BK305; clear BK312; clear HB; have BK284 := n0_; have BK285 := n1_; have BK289 := n2_; have BK293 := n3_; have BK297 := n4_; have BK301 := n5_; have BK305 := n6_; have BK312 := n7_; have HB := n8_; have BK325 := n9_; have GW325 := n10_; have GE325 := n11_; have NB284_325 := n12_; have NB325_284 := n13_; have NB285_325 := n14_; have NB325_285 := n15_; have NB289_325 := n16_; have NB325_289 := n17_; have NB293_325 := n18_; have NB325_293 := n19_; have NB297_325 := n20_; have NB325_297 := n21_; have NB301_325 := n22_; have NB325_301 := n23_; have NB305_325 := n24_; have NB325_305 := n25_; have NB312_325 := n26_; have NB325_312 := n27_; clear n0_ n1_ n2_ n3_ n4_ n5_ n6_ n7_ n8_ n9_ n10_ n11_ n12_ n13_ n14_ n15_ n16_ n17_ n18_ n19_ n20_ n21_ n22_ n23_ n24_ n25_ n26_ n27_; clear hb hbox hg; have hnb453 := NB325_284.out; have hnc453 := NB284_325.out; have hnb454 := NB325_285.out; have hnc454 := NB285_325.out; have hnb455 := NB325_289.out; have hnc455 := NB289_325.out; have hnb456 := NB325_293.out; have hnc456 := NB293_325.out; have hnb457 := NB325_297.out; have hnc457 := NB297_325.out; have hnb458 := NB325_301.out; have hnc458 := NB301_325.out; have hnb459 := NB325_305.out; have hnc459 := NB305_325.out; have hnb460 := NB325_312.out; have hnc460 := NB312_325.out; have hcz461_0 : w452.cell? ⟨gb325, 0, none⟩ = some (.int .i64 0) := (blk_cell BK325.out 0).trans rfl; have hcz461_1 : w452.cell? ⟨gb325, 1, none⟩ = some (.int .i64 0) := (blk_cell BK325.out 1).trans rfl; have hfz461_0 := blk_frozen BK325.out 0; have hfz461_1 := blk_frozen BK325.out 1))
             have n0_ : Aside0 (((w452.setCell ⟨gb325, 0, none⟩ (.int .i64 t322)).setCell ⟨gb325, 1, none⟩ (.int .i64 t323)).heap[gb284]? = some (.cells #[.int .i64 t280, .int .i64 t281] 24 (0, 0))) := ⟨by (with_reducible repeat first|apply bn|apply bd|apply ba); refine blk_far ?_ NB284_325.out _; (with_reducible repeat first|apply bn|apply bd|apply ba); refine blk_far ?_ NB284_325.out _; (with_reducible repeat first|apply bn|apply bd|apply ba); exact BK284.out⟩
             have n1_ : Aside0 (((w452.setCell ⟨gb325, 0, none⟩ (.int .i64 t322)).setCell ⟨gb325, 1, none⟩ (.int .i64 t323)).heap[gb285]? = some (.cells #[.int .i64 t282, .int .i64 t283] 24 (0, 0))) := ⟨by (with_reducible repeat first|apply bn|apply bd|apply ba); refine blk_far ?_ NB285_325.out _; (with_reducible repeat first|apply bn|apply bd|apply ba); refine blk_far ?_ NB285_325.out _; (with_reducible repeat first|apply bn|apply bd|apply ba); exact BK285.out⟩
             have n2_ : Aside0 (((w452.setCell ⟨gb325, 0, none⟩ (.int .i64 t322)).setCell ⟨gb325, 1, none⟩ (.int .i64 t323)).heap[gb289]? = some (.cells #[.int .i64 t286, .int .i64 t287] 24 (0, 0))) := ⟨by (with_reducible repeat first|apply bn|apply bd|apply ba); refine blk_far ?_ NB289_325.out _; (with_reducible repeat first|apply bn|apply bd|apply ba); refine blk_far ?_ NB289_325.out _; (with_reducible repeat first|apply bn|apply bd|apply ba); exact BK289.out⟩
             have n3_ : Aside0 (((w452.setCell ⟨gb325, 0, none⟩ (.int .i64 t322)).setCell ⟨gb325, 1, none⟩ (.int .i64 t323)).heap[gb293]? = some (.cells #[.int .i64 t290, .int .i64 t291] 24 (0, 0))) := ⟨by (with_reducible repeat first|apply bn|apply bd|apply ba); refine blk_far ?_ NB293_325.out _; (with_reducible repeat first|apply bn|apply bd|apply ba); refine blk_far ?_ NB293_325.out _; (with_reducible repeat first|apply bn|apply bd|apply ba); exact BK293.out⟩
             have n4_ : Aside0 (((w452.setCell ⟨gb325, 0, none⟩ (.int .i64 t322)).setCell ⟨gb325, 1, none⟩ (.int .i64 t323)).heap[gb297]? = some (.cells #[.int .i64 t294, .int .i64 t295] 24 (0, 0))) := ⟨by (with_reducible repeat first|apply bn|apply bd|apply ba); refine blk_far ?_ NB297_325.out _; (with_reducible repeat first|apply bn|apply bd|apply ba); refine blk_far ?_ NB297_325.out _; (with_reducible repeat first|apply bn|apply bd|apply ba); exact BK297.out⟩
             have n5_ : Aside0 (((w452.setCell ⟨gb325, 0, none⟩ (.int .i64 t322)).setCell ⟨gb325, 1, none⟩ (.int .i64 t323)).heap[gb301]? = some (.cells #[.int .i64 t298, .int .i64 t299] 24 (0, 0))) := ⟨by (with_reducible repeat first|apply bn|apply bd|apply ba); refine blk_far ?_ NB301_325.out _; (with_reducible repeat first|apply bn|apply bd|apply ba); refine blk_far ?_ NB301_325.out _; (with_reducible repeat first|apply bn|apply bd|apply ba); exact BK301.out⟩
             have n6_ : Aside0 (((w452.setCell ⟨gb325, 0, none⟩ (.int .i64 t322)).setCell ⟨gb325, 1, none⟩ (.int .i64 t323)).heap[gb305]? = some (.cells #[.int .i64 t302, .int .i64 t303] 24 (0, 0))) := ⟨by (with_reducible repeat first|apply bn|apply bd|apply ba); refine blk_far ?_ NB305_325.out _; (with_reducible repeat first|apply bn|apply bd|apply ba); refine blk_far ?_ NB305_325.out _; (with_reducible repeat first|apply bn|apply bd|apply ba); exact BK305.out⟩
             have n7_ : Aside0 (((w452.setCell ⟨gb325, 0, none⟩ (.int .i64 t322)).setCell ⟨gb325, 1, none⟩ (.int .i64 t323)).heap[gb312]? = some (.cells #[.int .i64 t309, .int .i64 t310] 24 (0, 0))) := ⟨by (with_reducible repeat first|apply bn|apply bd|apply ba); refine blk_far ?_ NB312_325.out _; (with_reducible repeat first|apply bn|apply bd|apply ba); refine blk_far ?_ NB312_325.out _; (with_reducible repeat first|apply bn|apply bd|apply ba); exact BK312.out⟩
             have n8_ : Aside0 (((w452.setCell ⟨gb325, 0, none⟩ (.int .i64 t322)).setCell ⟨gb325, 1, none⟩ (.int .i64 t323)).heap[gb325]? = some (.cells #[.int .i64 t322, .int .i64 t323] 24 (0, 0))) := ⟨by (with_reducible repeat first|apply bn|apply bd|apply ba); refine blk_put (cs := #[.int .i64 t322, .int .i64 0]) ?_ 1 _ rfl; (with_reducible repeat first|apply bn|apply bd|apply ba); refine blk_put (cs := #[.int .i64 0, .int .i64 0]) ?_ 0 _ rfl; (with_reducible repeat first|apply bn|apply bd|apply ba); exact BK325.out⟩
             have n9_ : Aside0 (Below w.heap.size w ((w452.setCell ⟨gb325, 0, none⟩ (.int .i64 t322)).setCell ⟨gb325, 1, none⟩ (.int .i64 t323))) := ⟨by repeat (first | (with_reducible first | exact HB.out | apply below_alloc | apply pw_below_drewN | apply below_drew1 | refine below_set ?_ GE284.out | refine below_set ?_ GE285.out | refine below_set ?_ GE289.out | refine below_set ?_ GE293.out | refine below_set ?_ GE297.out | refine below_set ?_ GE301.out | refine below_set ?_ GE305.out | refine below_set ?_ GE312.out | refine below_set ?_ GE325.out) | exact HB.out)⟩
             (try clear BK284)
             (try clear BK285)
             (try clear BK289)
             (try clear BK293)
             (try clear BK297)
             (try clear BK301)
             (try clear BK305)
             (try clear BK312)
             (try clear BK325)
             (try clear HB)
             generalize ((w452.setCell ⟨gb325, 0, none⟩ (.int .i64 t322)).setCell ⟨gb325, 1, none⟩ (.int .i64 t323)) = w462 at n0_ n1_ n2_ n3_ n4_ n5_ n6_ n7_ n8_ n9_ ⊢
             have BK284 := n0_
             have BK285 := n1_
             have BK289 := n2_
             have BK293 := n3_
             have BK297 := n4_
             have BK301 := n5_
             have BK305 := n6_
             have BK312 := n7_
             have BK325 := n8_
             have HB := n9_
             clear n0_ n1_ n2_ n3_ n4_ n5_ n6_ n7_ n8_ n9_
             have n0_ := Aside0.mk (blk_drew BK284.out)
             have n1_ := Aside0.mk (blk_drew BK285.out)
             have n2_ := Aside0.mk (blk_drew BK289.out)
             have n3_ := Aside0.mk (blk_drew BK293.out)
             have n4_ := Aside0.mk (blk_drew BK297.out)
             have n5_ := Aside0.mk (blk_drew BK301.out)
             have n6_ := Aside0.mk (blk_drew BK305.out)
             have n7_ := Aside0.mk (blk_drew BK312.out)
             have n8_ := Aside0.mk (blk_drew BK325.out)
             have n9_ := Aside0.mk (below_drew1 HB.out)
             clear BK284;clear BK285;clear BK289;clear BK293;clear BK297;clear BK301;clear BK305;clear BK312;clear BK325;clear HB
             have BK284 := n0_
             have BK285 := n1_
             have BK289 := n2_
             have BK293 := n3_
             have BK297 := n4_
             have BK301 := n5_
             have BK305 := n6_
             have BK312 := n7_
             have BK325 := n8_
             have HB := n9_
             clear n0_ n1_ n2_ n3_ n4_ n5_ n6_ n7_ n8_ n9_
             refine start_ (n := 28) (S := fun w' => w'.cell? ⟨gb325, 0, none⟩ = some (.int .i64 t322) ∧ w'.cell? ⟨gb325, 1, none⟩ = some (.int .i64 t323) ∧ w'.cell? ⟨gb284, 0, none⟩ = some (.int .i64 t280) ∧ w'.cell? ⟨gb284, 1, none⟩ = some (.int .i64 t281) ∧ w'.cell? ⟨gb285, 0, none⟩ = some (.int .i64 t282) ∧ w'.cell? ⟨gb285, 1, none⟩ = some (.int .i64 t283)) (ds := []) #[false, false, false, false, false, false, false, false, false, false, false, false, false, false, false, false, false, false, false, false, false, false, false, false, false, false, false, false] (by kernel_rfl) rfl rfl ⟨(blk_cell BK325.out 0).trans rfl, (blk_cell BK325.out 1).trans rfl, (blk_cell BK284.out 0).trans rfl, (blk_cell BK284.out 1).trans rfl, (blk_cell BK285.out 0).trans rfl, (blk_cell BK285.out 1).trans rfl⟩ (fun hHeld => ?_); refine with_tabW laws_FnRatios.tab23 laws_FnRatios.bits23 (fun HT_ HW_ => ?_)
             generalize w462.drew = w463 at BK284 BK285 BK289 BK293 BK297 BK301 BK305 BK312 BK325 HB hHeld ⊢
             refine pure_ (i := 0) (N := some 154) (v := ?_) (a' := ?_) #[true, false, false, false, false, false, false, false, false, false, false, false, false, false, false, false, false, false, false, false, false, false, false, false, false, false, false, false] rfl rfl (any_of HT_.out (by kernel_rfl)) (fun _ _ _ h => h) (Or.inl ⟨by rfl, ?_⟩) ?_ ?_
             rotate_left
             ·intro w'
              go_simp
              with_reducible rfl
             rotate_left
             ·simp only [Act.put, List.setIfInBounds_toArray, List.set, i64_w, i32_w]
              rfl
             refine pure_ (i := 1) (N := some 155) (v := ?_) (a' := ?_) #[true, true, false, false, false, false, false, false, false, false, false, false, false, false, false, false, false, false, false, false, false, false, false, false, false, false, false, false] rfl rfl (any_of HT_.out (by kernel_rfl)) (fun _ _ _ h => h) (Or.inl ⟨by rfl, ?_⟩) ?_ ?_
             rotate_left
             ·intro w'
              go_simp
              with_reducible rfl
             rotate_left
             ·simp only [Act.put, List.setIfInBounds_toArray, List.set, i64_w, i32_w]
              rfl
             refine pure_ (i := 2) (N := some 156) (v := ?_) (a' := ?_) #[true, true, true, false, false, false, false, false, false, false, false, false, false, false, false, false, false, false, false, false, false, false, false, false, false, false, false, false] rfl rfl (any_of HT_.out (by kernel_rfl)) (fun _ _ _ h => h) (Or.inl ⟨by rfl, ?_⟩) ?_ ?_
             rotate_left
             ·intro w'
              go_simp
              with_reducible rfl
             rotate_left
             ·simp only [Act.put, List.setIfInBounds_toArray, List.set, i64_w, i32_w]
              rfl
             refine take_ (i := 3) (N := some 157) (v := ?_) (a' := ?_) #[true, true, true, true, false, false, false, false, false, false, false, false, false, false, false, false, false, false, false, false, false, false, false, false, false, false, false, false] rfl rfl (take_ofW HT_.out HW_.out (by kernel_rfl)) (fun _ _ _ h => h) (Or.inl ⟨by rfl, ?_⟩) hHeld ?_ ?_
             rotate_left
             ·rintro w' ⟨s0, s1, s2, s3, s4, s5⟩
              go_simp
              with_reducible rfl
             rotate_left
             ·simp only [Act.put, List.setIfInBounds_toArray, List.set, i64_w, i32_w]
              rfl
             refine one_ (i := 4) (N := some 158) #[true, true, true, true, true, false, false, false, false, false, false, false, false, false, false, false, false, false, false, false, false, false, false, false, false, false, false, false] rfl rfl (one_of HT_.out (by kernel_rfl)) (by decide) (fun K hK => ?_)
             refine goes_ Try.func61 (by kernel_rfl) rfl #[.agg #[.int .i64 t322, .int .i64 t323]] (by rfl) rfl rfl (by (try simp only [List.map_toArray, List.map_cons, List.map_nil]); first|done|rfl) ?_
             with_reducible refine (impl_IsRatio.calls kj310 t322 t323 true _ A445.out).mono ?_
             rintro e w464 ⟨rfl, hb⟩
             refine ⟨_, rfl, ?_⟩
             have n0_ := Aside0.mk (blk_below (g := gb284) (o := .cells #[.int .i64 t280, .int .i64 t281] 24 (0, 0)) (by (with_reducible repeat first|apply bn|apply bd|apply ba); exact BK284.out) hb)
             have n1_ := Aside0.mk (blk_below (g := gb285) (o := .cells #[.int .i64 t282, .int .i64 t283] 24 (0, 0)) (by (with_reducible repeat first|apply bn|apply bd|apply ba); exact BK285.out) hb)
             have n2_ := Aside0.mk (blk_below (g := gb289) (o := .cells #[.int .i64 t286, .int .i64 t287] 24 (0, 0)) (by (with_reducible repeat first|apply bn|apply bd|apply ba); exact BK289.out) hb)
             have n3_ := Aside0.mk (blk_below (g := gb293) (o := .cells #[.int .i64 t290, .int .i64 t291] 24 (0, 0)) (by (with_reducible repeat first|apply bn|apply bd|apply ba); exact BK293.out) hb)
             have n4_ := Aside0.mk (blk_below (g := gb297) (o := .cells #[.int .i64 t294, .int .i64 t295] 24 (0, 0)) (by (with_reducible repeat first|apply bn|apply bd|apply ba); exact BK297.out) hb)
             have n5_ := Aside0.mk (blk_below (g := gb301) (o := .cells #[.int .i64 t298, .int .i64 t299] 24 (0, 0)) (by (with_reducible repeat first|apply bn|apply bd|apply ba); exact BK301.out) hb)
             have n6_ := Aside0.mk (blk_below (g := gb305) (o := .cells #[.int .i64 t302, .int .i64 t303] 24 (0, 0)) (by (with_reducible repeat first|apply bn|apply bd|apply ba); exact BK305.out) hb)
             have n7_ := Aside0.mk (blk_below (g := gb312) (o := .cells #[.int .i64 t309, .int .i64 t310] 24 (0, 0)) (by (with_reducible repeat first|apply bn|apply bd|apply ba); exact BK312.out) hb)
             have n8_ := Aside0.mk (blk_below (g := gb325) (o := .cells #[.int .i64 t322, .int .i64 t323] 24 (0, 0)) (by (with_reducible repeat first|apply bn|apply bd|apply ba); exact BK325.out) hb)
             have n9_ := Aside0.mk (below_step (by repeat first|(with_reducible first|exact HB.out|apply la|apply ln|apply ld|refine ls ?_ (Aside0.out (by assumption)))|exact HB.out) hb)
             clear BK284;clear BK285;clear BK289;clear BK293;clear BK297;clear BK301;clear BK305;clear BK312;clear BK325;clear HB
             have BK284 := n0_
             have BK285 := n1_
             have BK289 := n2_
             have BK293 := n3_
             have BK297 := n4_
             have BK301 := n5_
             have BK305 := n6_
             have BK312 := n7_
             have BK325 := n8_
             have HB := n9_
             clear n0_ n1_ n2_ n3_ n4_ n5_ n6_ n7_ n8_ n9_
             (try clear hb)
             (try clear hb2)
             (try clear hk)
             (try clear hi)
             refine hK.out _ _ ⟨(blk_cell BK325.out 0).trans rfl, (blk_cell BK325.out 1).trans rfl, (blk_cell BK284.out 0).trans rfl, (blk_cell BK284.out 1).trans rfl, (blk_cell BK285.out 0).trans rfl, (blk_cell BK285.out 1).trans rfl⟩ (fun hHeld => ?_)
             clear hK K
             refine norm_ (a' := ?_) ?_ ?_
             rotate_left
             ·show Act.put _ (some 158) _ = _
              simp only [Act.put, List.setIfInBounds_toArray, List.set, i64_w, i32_w]
              rfl
             refine pure_ (i := 5) (N := some 159) (v := ?_) (a' := ?_) #[true, true, true, true, true, true, false, false, false, false, false, false, false, false, false, false, false, false, false, false, false, false, false, false, false, false, false, false] rfl rfl (any_of HT_.out (by kernel_rfl)) (fun _ _ _ h => h) (Or.inl ⟨by rfl, ?_⟩) ?_ ?_
             rotate_left
             ·intro w'
              go_simp
              with_reducible rfl
             rotate_left
             ·simp only [Act.put, List.setIfInBounds_toArray, List.set, i64_w, i32_w]
              rfl
             refine pure_ (i := 6) (N := some 160) (v := ?_) (a' := ?_) #[true, true, true, true, true, true, true, false, false, false, false, false, false, false, false, false, false, false, false, false, false, false, false, false, false, false, false, false] rfl rfl (any_of HT_.out (by kernel_rfl)) (fun _ _ _ h => h) (Or.inl ⟨by rfl, ?_⟩) ?_ ?_
             rotate_left
             ·intro w'
              go_simp
              with_reducible rfl
             rotate_left
             ·simp only [Act.put, List.setIfInBounds_toArray, List.set, i64_w, i32_w]
              rfl
             refine pure_ (i := 8) (N := some 162) (v := ?_) (a' := ?_) #[true, true, true, true, true, true, true, false, true, false, false, false, false, false, false, false, false, false, false, false, false, false, false, false, false, false, false, false] rfl rfl (any_of HT_.out (by kernel_rfl)) (fun _ _ _ h => h) (Or.inl ⟨by rfl, ?_⟩) ?_ ?_
             rotate_left
             ·intro w'
              go_simp
              with_reducible rfl
             rotate_left
             ·simp only [Act.put, List.setIfInBounds_toArray, List.set, i64_w, i32_w]
              rfl
             refine pure_ (i := 10) (N := some 164) (v := ?_) (a' := ?_) #[true, true, true, true, true, true, true, false, true, false, true, false, false, false, false, false, false, false, false, false, false, false, false, false, false, false, false, false] rfl rfl (any_of HT_.out (by kernel_rfl)) (fun _ _ _ h => h) (Or.inl ⟨by rfl, ?_⟩) ?_ ?_
             rotate_left
             ·intro w'
              go_simp
              with_reducible rfl
             rotate_left
             ·simp only [Act.put, List.setIfInBounds_toArray, List.set, i64_w, i32_w]
              rfl
             refine pure_ (i := 11) (N := some 165) (v := ?_) (a' := ?_) #[true, true, true, true, true, true, true, false, true, false, true, true, false, false, false, false, false, false, false, false, false, false, false, false, false, false, false, false] rfl rfl (any_of HT_.out (by kernel_rfl)) (fun _ _ _ h => h) (Or.inl ⟨by rfl, ?_⟩) ?_ ?_
             rotate_left
             ·intro w'
              go_simp
              with_reducible rfl
             rotate_left
             ·simp only [Act.put, List.setIfInBounds_toArray, List.set, i64_w, i32_w]
              rfl
             refine take_ (i := 7) (N := some 161) (v := ?_) (a' := ?_) #[true, true, true, true, true, true, true, true, true, false, true, true, false, false, false, false, false, false, false, false, false, false, false, false, false, false, false, false] rfl rfl (take_ofW HT_.out HW_.out (by kernel_rfl)) (fun _ _ _ h => h) (Or.inl ⟨by rfl, ?_⟩) hHeld ?_ ?_
             rotate_left
             ·rintro w' ⟨s0, s1, s2, s3, s4, s5⟩
              go_simp
              with_reducible rfl
             rotate_left
             ·simp only [Act.put, List.setIfInBounds_toArray, List.set, i64_w, i32_w]
              rfl
             refine pure_ (i := 9) (N := some 163) (v := ?_) (a' := ?_) #[true, true, true, true, true, true, true, true, true, true, true, true, false, false, false, false, false, false, false, false, false, false, false, false, false, false, false, false] rfl rfl (any_of HT_.out (by kernel_rfl)) (fun _ _ _ h => h) (Or.inl ⟨by rfl, ?_⟩) ?_ ?_
             rotate_left
             ·intro w'
              go_simp
              with_reducible rfl
             rotate_left
             ·simp only [Act.put, List.setIfInBounds_toArray, List.set, i64_w, i32_w]
              rfl
             refine take_ (i := 12) (N := some 166) (v := ?_) (a' := ?_) #[true, true, true, true, true, true, true, true, true, true, true, true, true, false, false, false, false, false, false, false, false, false, false, false, false, false, false, false] rfl rfl (take_ofW HT_.out HW_.out (by kernel_rfl)) (fun _ _ _ h => h) (Or.inl ⟨by rfl, ?_⟩) hHeld ?_ ?_
             rotate_left
             ·rintro w' ⟨s0, s1, s2, s3, s4, s5⟩
              go_simp
              with_reducible rfl
             rotate_left
             ·simp only [Act.put, List.setIfInBounds_toArray, List.set, i64_w, i32_w]
              rfl
             refine pure_ (i := 13) (N := some 167) (v := ?_) (a' := ?_) #[true, true, true, true, true, true, true, true, true, true, true, true, true, true, false, false, false, false, false, false, false, false, false, false, false, false, false, false] rfl rfl (any_of HT_.out (by kernel_rfl)) (fun _ _ _ h => h) (Or.inl ⟨by rfl, ?_⟩) ?_ ?_
             rotate_left
             ·intro w'
              go_simp
              with_reducible rfl
             rotate_left
             ·simp only [Act.put, List.setIfInBounds_toArray, List.set, i64_w, i32_w]
              rfl
             refine pure_ (i := 14) (N := some 168) (v := ?_) (a' := ?_) #[true, true, true, true, true, true, true, true, true, true, true, true, true, true, true, false, false, false, false, false, false, false, false, false, false, false, false, false] rfl rfl (any_of HT_.out (by kernel_rfl)) (fun _ _ _ h => h) (Or.inl ⟨by rfl, ?_⟩) ?_ ?_
             rotate_left
             ·intro w'
              go_simp
              with_reducible rfl
             rotate_left
             ·simp only [Act.put, List.setIfInBounds_toArray, List.set, i64_w, i32_w]
              rfl
             refine pure_ (i := 15) (N := some 169) (v := ?_) (a' := ?_) #[true, true, true, true, true, true, true, true, true, true, true, true, true, true, true, true, false, false, false, false, false, false, false, false, false, false, false, false] rfl rfl (any_of HT_.out (by kernel_rfl)) (fun _ _ _ h => h) (Or.inl ⟨by rfl, ?_⟩) ?_ ?_
             rotate_left
             ·intro w'
              go_simp
              with_reducible rfl
             rotate_left
             ·simp only [Act.put, List.setIfInBounds_toArray, List.set, i64_w, i32_w]
              rfl
             refine pure_ (i := 16) (N := some 170) (v := ?_) (a' := ?_) #[true, true, true, true, true, true, true, true, true, true, true, true, true, true, true, true, true, false, false, false, false, false, false, false, false, false, false, false] rfl rfl (any_of HT_.out (by kernel_rfl)) (fun _ _ _ h => h) (Or.inl ⟨by rfl, ?_⟩) ?_ ?_
             rotate_left
             ·intro w'
              go_simp
              with_reducible rfl
             rotate_left
             ·simp only [Act.put, List.setIfInBounds_toArray, List.set, i64_w, i32_w]
              rfl
             refine pure_ (i := 17) (N := some 171) (v := ?_) (a' := ?_) #[true, true, true, true, true, true, true, true, true, true, true, true, true, true, true, true, true, true, false, false, false, false, false, false, false, false, false, false] rfl rfl (any_of HT_.out (by kernel_rfl)) (fun _ _ _ h => h) (Or.inl ⟨by rfl, ?_⟩) ?_ ?_
             rotate_left
             ·intro w'
              go_simp
              with_reducible rfl
             rotate_left
             ·simp only [Act.put, List.setIfInBounds_toArray, List.set, i64_w, i32_w]
              rfl
             refine take_ (i := 18) (N := some 172) (v := ?_) (a' := ?_) #[true, true, true, true, true, true, true, true, true, true, true, true, true, true, true, true, true, true, true, false, false, false, false, false, false, false, false, false] rfl rfl (take_ofW HT_.out HW_.out (by kernel_rfl)) (fun _ _ _ h => h) (Or.inl ⟨by rfl, ?_⟩) hHeld ?_ ?_
             rotate_left
             ·rintro w' ⟨s0, s1, s2, s3, s4, s5⟩
              go_simp
              with_reducible rfl
             rotate_left
             ·simp only [Act.put, List.setIfInBounds_toArray, List.set, i64_w, i32_w]
              rfl
             refine take_ (i := 19) (N := some 173) (v := ?_) (a' := ?_) #[true, true, true, true, true, true, true, true, true, true, true, true, true, true, true, true, true, true, true, true, false, false, false, false, false, false, false, false] rfl rfl (take_ofW HT_.out HW_.out (by kernel_rfl)) (fun _ _ _ h => h) (Or.inl ⟨by rfl, ?_⟩) hHeld ?_ ?_
             rotate_left
             ·rintro w' ⟨s0, s1, s2, s3, s4, s5⟩
              go_simp
              with_reducible rfl
             rotate_left
             ·simp only [Act.put, List.setIfInBounds_toArray, List.set, i64_w, i32_w]
              rfl
             refine take_ (i := 21) (N := some 175) (v := ?_) (a' := ?_) #[true, true, true, true, true, true, true, true, true, true, true, true, true, true, true, true, true, true, true, true, false, true, false, false, false, false, false, false] rfl rfl (take_ofW HT_.out HW_.out (by kernel_rfl)) (fun _ _ _ h => h) (Or.inl ⟨by rfl, ?_⟩) hHeld ?_ ?_
             rotate_left
             ·rintro w' ⟨s0, s1, s2, s3, s4, s5⟩
              go_simp
              with_reducible rfl
             rotate_left
             ·simp only [Act.put, List.setIfInBounds_toArray, List.set, i64_w, i32_w]
              rfl
             refine take_ (i := 22) (N := some 176) (v := ?_) (a' := ?_) #[true, true, true, true, true, true, true, true, true, true, true, true, true, true, true, true, true, true, true, true, false, true, true, false, false, false, false, false] rfl rfl (take_ofW HT_.out HW_.out (by kernel_rfl)) (fun _ _ _ h => h) (Or.inl ⟨by rfl, ?_⟩) hHeld ?_ ?_
             rotate_left
             ·rintro w' ⟨s0, s1, s2, s3, s4, s5⟩
              go_simp
              with_reducible rfl
             rotate_left
             ·simp only [Act.put, List.setIfInBounds_toArray, List.set, i64_w, i32_w]
              rfl
             refine one_ (i := 20) (N := some 174) #[true, true, true, true, true, true, true, true, true, true, true, true, true, true, true, true, true, true, true, true, true, true, true, false, false, false, false, false] rfl rfl (one_of HT_.out (by kernel_rfl)) (by decide) (fun K hK => ?_)
             refine goes_ Try.func20 (by kernel_rfl) rfl #[.agg #[.int .i64 t280, .int .i64 t281], .agg #[.int .i64 t282, .int .i64 t283]] (by rfl) rfl rfl (by (try simp only [List.map_toArray, List.map_cons, List.map_nil]); first|done|rfl) ?_
             with_reducible refine (impl_CompareRatios.calls kj310 t280 t281 t282 t283 t327 _ A448.out).mono ?_
             rintro e w465 ⟨rfl, hb⟩
             refine ⟨_, rfl, ?_⟩
             have n0_ := Aside0.mk (blk_below (g := gb284) (o := .cells #[.int .i64 t280, .int .i64 t281] 24 (0, 0)) (by (with_reducible repeat first|apply bn|apply bd|apply ba); exact BK284.out) hb)
             have n1_ := Aside0.mk (blk_below (g := gb285) (o := .cells #[.int .i64 t282, .int .i64 t283] 24 (0, 0)) (by (with_reducible repeat first|apply bn|apply bd|apply ba); exact BK285.out) hb)
             have n2_ := Aside0.mk (blk_below (g := gb289) (o := .cells #[.int .i64 t286, .int .i64 t287] 24 (0, 0)) (by (with_reducible repeat first|apply bn|apply bd|apply ba); exact BK289.out) hb)
             have n3_ := Aside0.mk (blk_below (g := gb293) (o := .cells #[.int .i64 t290, .int .i64 t291] 24 (0, 0)) (by (with_reducible repeat first|apply bn|apply bd|apply ba); exact BK293.out) hb)
             have n4_ := Aside0.mk (blk_below (g := gb297) (o := .cells #[.int .i64 t294, .int .i64 t295] 24 (0, 0)) (by (with_reducible repeat first|apply bn|apply bd|apply ba); exact BK297.out) hb)
             have n5_ := Aside0.mk (blk_below (g := gb301) (o := .cells #[.int .i64 t298, .int .i64 t299] 24 (0, 0)) (by (with_reducible repeat first|apply bn|apply bd|apply ba); exact BK301.out) hb)
             have n6_ := Aside0.mk (blk_below (g := gb305) (o := .cells #[.int .i64 t302, .int .i64 t303] 24 (0, 0)) (by (with_reducible repeat first|apply bn|apply bd|apply ba); exact BK305.out) hb)
             have n7_ := Aside0.mk (blk_below (g := gb312) (o := .cells #[.int .i64 t309, .int .i64 t310] 24 (0, 0)) (by (with_reducible repeat first|apply bn|apply bd|apply ba); exact BK312.out) hb)
             have n8_ := Aside0.mk (blk_below (g := gb325) (o := .cells #[.int .i64 t322, .int .i64 t323] 24 (0, 0)) (by (with_reducible repeat first|apply bn|apply bd|apply ba); exact BK325.out) hb)
             have n9_ := Aside0.mk (below_step (by repeat first|(with_reducible first|exact HB.out|apply la|apply ln|apply ld|refine ls ?_ (Aside0.out (by assumption)))|exact HB.out) hb)
             clear BK284;clear BK285;clear BK289;clear BK293;clear BK297;clear BK301;clear BK305;clear BK312;clear BK325;clear HB
             have BK284 := n0_
             have BK285 := n1_
             have BK289 := n2_
             have BK293 := n3_
             have BK297 := n4_
             have BK301 := n5_
             have BK305 := n6_
             have BK312 := n7_
             have BK325 := n8_
             have HB := n9_
             clear n0_ n1_ n2_ n3_ n4_ n5_ n6_ n7_ n8_ n9_
             (try clear hb)
             (try clear hb2)
             (try clear hk)
             (try clear hi)
             refine hK.out _ _ ⟨(blk_cell BK325.out 0).trans rfl, (blk_cell BK325.out 1).trans rfl, (blk_cell BK284.out 0).trans rfl, (blk_cell BK284.out 1).trans rfl, (blk_cell BK285.out 0).trans rfl, (blk_cell BK285.out 1).trans rfl⟩ (fun hHeld => ?_)
             clear hK K
             refine norm_ (a' := ?_) ?_ ?_
             rotate_left
             ·show Act.put _ (some 174) _ = _
              simp only [Act.put, List.setIfInBounds_toArray, List.set, i64_w, i32_w]
              rfl
             refine one_ (i := 23) (N := some 177) #[true, true, true, true, true, true, true, true, true, true, true, true, true, true, true, true, true, true, true, true, true, true, true, true, false, false, false, false] rfl rfl (one_of HT_.out (by kernel_rfl)) (by decide) (fun K hK => ?_)
             refine goes_ Try.func20 (by kernel_rfl) rfl #[.agg #[.int .i64 t282, .int .i64 t283], .agg #[.int .i64 t280, .int .i64 t281]] (by rfl) rfl rfl (by (try simp only [List.map_toArray, List.map_cons, List.map_nil]); first|done|rfl) ?_
             with_reducible refine (impl_CompareRatios.calls kj310 t282 t283 t280 t281 t328 _ A449.out).mono ?_
             rintro e w466 ⟨rfl, hb⟩
             refine ⟨_, rfl, ?_⟩
             have n0_ := Aside0.mk (blk_below (g := gb284) (o := .cells #[.int .i64 t280, .int .i64 t281] 24 (0, 0)) (by (with_reducible repeat first|apply bn|apply bd|apply ba); exact BK284.out) hb)
             have n1_ := Aside0.mk (blk_below (g := gb285) (o := .cells #[.int .i64 t282, .int .i64 t283] 24 (0, 0)) (by (with_reducible repeat first|apply bn|apply bd|apply ba); exact BK285.out) hb)
             have n2_ := Aside0.mk (blk_below (g := gb289) (o := .cells #[.int .i64 t286, .int .i64 t287] 24 (0, 0)) (by (with_reducible repeat first|apply bn|apply bd|apply ba); exact BK289.out) hb)
             have n3_ := Aside0.mk (blk_below (g := gb293) (o := .cells #[.int .i64 t290, .int .i64 t291] 24 (0, 0)) (by (with_reducible repeat first|apply bn|apply bd|apply ba); exact BK293.out) hb)
             have n4_ := Aside0.mk (blk_below (g := gb297) (o := .cells #[.int .i64 t294, .int .i64 t295] 24 (0, 0)) (by (with_reducible repeat first|apply bn|apply bd|apply ba); exact BK297.out) hb)
             have n5_ := Aside0.mk (blk_below (g := gb301) (o := .cells #[.int .i64 t298, .int .i64 t299] 24 (0, 0)) (by (with_reducible repeat first|apply bn|apply bd|apply ba); exact BK301.out) hb)
             have n6_ := Aside0.mk (blk_below (g := gb305) (o := .cells #[.int .i64 t302, .int .i64 t303] 24 (0, 0)) (by (with_reducible repeat first|apply bn|apply bd|apply ba); exact BK305.out) hb)
             have n7_ := Aside0.mk (blk_below (g := gb312) (o := .cells #[.int .i64 t309, .int .i64 t310] 24 (0, 0)) (by (with_reducible repeat first|apply bn|apply bd|apply ba); exact BK312.out) hb)
             have n8_ := Aside0.mk (blk_below (g := gb325) (o := .cells #[.int .i64 t322, .int .i64 t323] 24 (0, 0)) (by (with_reducible repeat first|apply bn|apply bd|apply ba); exact BK325.out) hb)
             have n9_ := Aside0.mk (below_step (by repeat first|(with_reducible first|exact HB.out|apply la|apply ln|apply ld|refine ls ?_ (Aside0.out (by assumption)))|exact HB.out) hb)
             clear BK284;clear BK285;clear BK289;clear BK293;clear BK297;clear BK301;clear BK305;clear BK312;clear BK325;clear HB
             have BK284 := n0_
             have BK285 := n1_
             have BK289 := n2_
             have BK293 := n3_
             have BK297 := n4_
             have BK301 := n5_
             have BK305 := n6_
             have BK312 := n7_
             have BK325 := n8_
             have HB := n9_
             clear n0_ n1_ n2_ n3_ n4_ n5_ n6_ n7_ n8_ n9_
             (try clear hb)
             (try clear hb2)
             (try clear hk)
             (try clear hi)
             refine hK.out _ _ ⟨(blk_cell BK325.out 0).trans rfl, (blk_cell BK325.out 1).trans rfl, (blk_cell BK284.out 0).trans rfl, (blk_cell BK284.out 1).trans rfl, (blk_cell BK285.out 0).trans rfl, (blk_cell BK285.out 1).trans rfl⟩ (fun hHeld => ?_)
             clear hK K
             refine norm_ (a' := ?_) ?_ ?_
             rotate_left
             ·show Act.put _ (some 177) _ = _
              simp only [Act.put, List.setIfInBounds_toArray, List.set, i64_w, i32_w]
              rfl
             refine pure_ (i := 24) (N := some 178) (v := ?_) (a' := ?_) #[true, true, true, true, true, true, true, true, true, true, true, true, true, true, true, true, true, true, true, true, true, true, true, true, true, false, false, false] rfl rfl (any_of HT_.out (by kernel_rfl)) (fun _ _ _ h => h) (Or.inl ⟨by rfl, ?_⟩) ?_ ?_
             rotate_left
             ·intro w'
              go_simp
              with_reducible rfl
             rotate_left
             ·simp only [Act.put, List.setIfInBounds_toArray, List.set, i64_w, i32_w]
              rfl
             refine pure_ (i := 25) (N := some 179) (v := ?_) (a' := ?_) #[true, true, true, true, true, true, true, true, true, true, true, true, true, true, true, true, true, true, true, true, true, true, true, true, true, true, false, false] rfl rfl (any_of HT_.out (by kernel_rfl)) (fun _ _ _ h => h) (Or.inl ⟨by rfl, ?_⟩) ?_ ?_
             rotate_left
             ·intro w'
              go_simp
              with_reducible rfl
             rotate_left
             ·simp only [Act.put, List.setIfInBounds_toArray, List.set, i64_w, i32_w]
              rfl
             refine pure_ (i := 26) (N := some 180) (v := ?_) (a' := ?_) #[true, true, true, true, true, true, true, true, true, true, true, true, true, true, true, true, true, true, true, true, true, true, true, true, true, true, true, false] rfl rfl (any_of HT_.out (by kernel_rfl)) (fun _ _ _ h => h) (Or.inl ⟨by rfl, ?_⟩) ?_ ?_
             rotate_left
             ·intro w'
              go_simp
              with_reducible rfl
             rotate_left
             ·simp only [Act.put, List.setIfInBounds_toArray, List.set, i64_w, i32_w]
              rfl
             refine pure_ (i := 27) (N := some 2) (v := ?_) (a' := ?_) #[true, true, true, true, true, true, true, true, true, true, true, true, true, true, true, true, true, true, true, true, true, true, true, true, true, true, true, true] rfl rfl (any_of HT_.out (by kernel_rfl)) (fun _ _ _ h => h) (Or.inl ⟨by rfl, ?_⟩) ?_ ?_
             rotate_left
             ·intro w'
              go_simp
              with_reducible rfl
             rotate_left
             ·simp only [Act.put, List.setIfInBounds_toArray, List.set, i64_w, i32_w]
              rfl
             refine done_ (done_of HT_.out (by kernel_rfl)) ?_
             try go_wp2
             go_ret
             exact ⟨by first | rfl | (simp [errW_none, errW_some] <;> rfl) | (simp [*, errW_none, errW_some] <;> rfl), by repeat (first | (with_reducible first | exact HB.out | apply below_alloc | apply pw_below_drewN | apply below_drew1 | refine below_set ?_ GE284.out | refine below_set ?_ GE285.out | refine below_set ?_ GE289.out | refine below_set ?_ GE293.out | refine below_set ?_ GE297.out | refine below_set ?_ GE301.out | refine below_set ?_ GE305.out | refine below_set ?_ GE312.out | refine below_set ?_ GE325.out) | exact HB.out)⟩
            ·rw [if_neg c447] at H
             have c447b0 : ((wrap64 (t322 * t321)) == (wrap64 (t320 * t323))) = false := beq_eq_false_iff_ne.mpr c447
             have c447b1 : ((wrap64 (t322 * t321)) != (wrap64 (t320 * t323))) = true := bne_iff_ne.mpr c447
             exact absurd ((Option.some.inj H).trans htrue) (by decide)
           ·replace c446 := Bool.eq_false_iff.mpr c446
            subst c446
            have H1 : (some false) = some r := by rw [if_neg (show ¬ (false = true) by decide)] at H; exact H
            clear H
            have H := H1
            clear H1
            exact absurd ((Option.some.inj H).trans htrue) (by decide)
          ·replace c444 := Bool.eq_false_iff.mpr c444
           subst c444
           have H1 : ((impl_CompareRatios.f kj310 t280 t281 t282 t283).bind fun t329 => ((impl_CompareRatios.f kj310 t282 t283 t280 t281).bind fun t330 => (some (t329 == (wrap64 (-t330)))))) = some r := by rw [if_neg (show ¬ (false = true) by decide)] at H; exact H
           clear H
           have H := H1
           clear H1
           replace H := Option.bind_eq_some_iff.mp H
           obtain ⟨t329, A4970, H⟩ := H
           replace H : ((impl_CompareRatios.f kj310 t282 t283 t280 t281).bind fun t330 => (some (t329 == (wrap64 (-t330))))) = some r := H
           have A497 := Aside0.mk A4970
           clear A4970
           replace H := Option.bind_eq_some_iff.mp H
           obtain ⟨t330, A4980, H⟩ := H
           replace H : (some (t329 == (wrap64 (-t330)))) = some r := H
           have A498 := Aside0.mk A4980
           clear A4980;clear htrue
           obtain rfl := Option.some.inj H
           try go_wp2_with (first | ((with_reducible refine gate_callee (f := 63) rfl ?_); refine goesL_ (some 145) rfl rfl Try.func63 (by kernel_rfl) rfl #[.slice A0 l0.length c0] rfl (by (try simp only [List.map_toArray, List.map_cons, List.map_nil]); first|done|rfl) ?_; (with_reducible refine (spec_DrawMakeRatio.calls kj310 _ _ l0 t320 t321 _ ?side1 ?side2 A442.out).mono ?_); (case side1 => repeat (first | exact (Kd.C_below HR0.out HB.out) | (with_reducible refine Kd.C_alloc ?_ _) | (with_reducible refine Kd.C_drewN ?_ _) | (with_reducible refine Kd.C_drew ?_))); (case side2 => exact HC0.out); rintro e w499 ⟨rfl, hb⟩; refine ⟨_, rfl, ?_⟩; have n0_ := Aside0.mk (blk_below (g := gb284) (o := .cells #[.int .i64 t280, .int .i64 t281] 24 (0, 0)) (by (with_reducible repeat first|apply bn|apply bd|apply ba); exact BK284.out) hb); have n1_ := Aside0.mk (blk_below (g := gb285) (o := .cells #[.int .i64 t282, .int .i64 t283] 24 (0, 0)) (by (with_reducible repeat first|apply bn|apply bd|apply ba); exact BK285.out) hb); have n2_ := Aside0.mk (blk_below (g := gb289) (o := .cells #[.int .i64 t286, .int .i64 t287] 24 (0, 0)) (by (with_reducible repeat first|apply bn|apply bd|apply ba); exact BK289.out) hb); have n3_ := Aside0.mk (blk_below (g := gb293) (o := .cells #[.int .i64 t290, .int .i64 t291] 24 (0, 0)) (by (with_reducible repeat first|apply bn|apply bd|apply ba); exact BK293.out) hb); have n4_ := Aside0.mk (blk_below (g := gb297) (o := .cells #[.int .i64 t294, .int .i64 t295] 24 (0, 0)) (by (with_reducible repeat first|apply bn|apply bd|apply ba); exact BK297.out) hb); have n5_ := Aside0.mk (blk_below (g := gb301) (o := .cells #[.int .i64 t298, .int .i64 t299] 24 (0, 0)) (by (with_reducible repeat first|apply bn|apply bd|apply ba); exact BK301.out) hb); have n6_ := Aside0.mk (blk_below (g := gb305) (o := .cells #[.int .i64 t302, .int .i64 t303] 24 (0, 0)) (by (with_reducible repeat first|apply bn|apply bd|apply ba); exact BK305.out) hb); have n7_ := Aside0.mk (blk_below (g := gb312) (o := .cells #[.int .i64 t309, .int .i64 t310] 24 (0, 0)) (by (with_reducible repeat first|apply bn|apply bd|apply ba); exact BK312.out) hb); have n8_ := Aside0.mk (below_step (by repeat first|(with_reducible first|exact HB.out|apply la|apply ln|apply ld|refine ls ?_ (Aside0.out (by assumption)))|exact HB.out) hb); clear BK284; clear BK285; clear BK289; clear BK293; clear BK297; clear BK301; clear BK305; clear BK312; clear HB; have BK284 := n0_; have BK285 := n1_; have BK289 := n2_; have BK293 := n3_; have BK297 := n4_; have BK301 := n5_; have BK305 := n6_; have BK312 := n7_; have HB := n8_; clear n0_ n1_ n2_ n3_ n4_ n5_ n6_ n7_ n8_; (try clear hb)) | ((with_reducible refine gate_callee (f := 22) rfl ?_); refine goesL_ (some 151) rfl rfl Try.func22 (by kernel_rfl) rfl #[.int .i64 t320, .int .i64 t321] rfl (by (try simp only [List.map_toArray, List.map_cons, List.map_nil]); first|done|rfl) ?_; (with_reducible refine (impl_MakeRatio.calls kj310 t320 t321 t322 t323 false _ A443.out).mono ?_); rintro e w500 ⟨rfl, hb⟩; refine ⟨_, rfl, ?_⟩; have n0_ := Aside0.mk (blk_below (g := gb284) (o := .cells #[.int .i64 t280, .int .i64 t281] 24 (0, 0)) (by (with_reducible repeat first|apply bn|apply bd|apply ba); exact BK284.out) hb); have n1_ := Aside0.mk (blk_below (g := gb285) (o := .cells #[.int .i64 t282, .int .i64 t283] 24 (0, 0)) (by (with_reducible repeat first|apply bn|apply bd|apply ba); exact BK285.out) hb); have n2_ := Aside0.mk (blk_below (g := gb289) (o := .cells #[.int .i64 t286, .int .i64 t287] 24 (0, 0)) (by (with_reducible repeat first|apply bn|apply bd|apply ba); exact BK289.out) hb); have n3_ := Aside0.mk (blk_below (g := gb293) (o := .cells #[.int .i64 t290, .int .i64 t291] 24 (0, 0)) (by (with_reducible repeat first|apply bn|apply bd|apply ba); exact BK293.out) hb); have n4_ := Aside0.mk (blk_below (g := gb297) (o := .cells #[.int .i64 t294, .int .i64 t295] 24 (0, 0)) (by (with_reducible repeat first|apply bn|apply bd|apply ba); exact BK297.out) hb); have n5_ := Aside0.mk (blk_below (g := gb301) (o := .cells #[.int .i64 t298, .int .i64 t299] 24 (0, 0)) (by (with_reducible repeat first|apply bn|apply bd|apply ba); exact BK301.out) hb); have n6_ := Aside0.mk (blk_below (g := gb305) (o := .cells #[.int .i64 t302, .int .i64 t303] 24 (0, 0)) (by (with_reducible repeat first|apply bn|apply bd|apply ba); exact BK305.out) hb); have n7_ := Aside0.mk (blk_below (g := gb312) (o := .cells #[.int .i64 t309, .int .i64 t310] 24 (0, 0)) (by (with_reducible repeat first|apply bn|apply bd|apply ba); exact BK312.out) hb); have n8_ := Aside0.mk (below_step (by repeat first|(with_reducible first|exact HB.out|apply la|apply ln|apply ld|refine ls ?_ (Aside0.out (by assumption)))|exact HB.out) hb); clear BK284; clear BK285; clear BK289; clear BK293; clear BK297; clear BK301; clear BK305; clear BK312; clear HB; have BK284 := n0_; have BK285 := n1_; have BK289 := n2_; have BK293 := n3_; have BK297 := n4_; have BK301 := n5_; have BK305 := n6_; have BK312 := n7_; have HB := n8_; clear n0_ n1_ n2_ n3_ n4_ n5_ n6_ n7_ n8_; (try clear hb)) | ((with_reducible refine gate_dst (N := 22) rfl ?_); refine box_event ?hg (N := 22) ?hd (cs := #[.int .i64 0, .int .i64 0]) (t := 24) ?hr ?_; (case hd => rfl); (case hg => rfl); (case hr => first | (go_simp; done) | (go_simp; rfl)); intro gb325 hg w501 hbox hb; have n0_ := Aside0.mk (blk_below (g := gb284) (o := .cells #[.int .i64 t280, .int .i64 t281] 24 (0, 0)) (by (with_reducible repeat first|apply bn|apply bd|apply ba); exact BK284.out) hb); have n1_ := Aside0.mk (blk_below (g := gb285) (o := .cells #[.int .i64 t282, .int .i64 t283] 24 (0, 0)) (by (with_reducible repeat first|apply bn|apply bd|apply ba); exact BK285.out) hb); have n2_ := Aside0.mk (blk_below (g := gb289) (o := .cells #[.int .i64 t286, .int .i64 t287] 24 (0, 0)) (by (with_reducible repeat first|apply bn|apply bd|apply ba); exact BK289.out) hb); have n3_ := Aside0.mk (blk_below (g := gb293) (o := .cells #[.int .i64 t290, .int .i64 t291] 24 (0, 0)) (by (with_reducible repeat first|apply bn|apply bd|apply ba); exact BK293.out) hb); have n4_ := Aside0.mk (blk_below (g := gb297) (o := .cells #[.int .i64 t294, .int .i64 t295] 24 (0, 0)) (by (with_reducible repeat first|apply bn|apply bd|apply ba); exact BK297.out) hb); have n5_ := Aside0.mk (blk_below (g := gb301) (o := .cells #[.int .i64 t298, .int .i64 t299] 24 (0, 0)) (by (with_reducible repeat first|apply bn|apply bd|apply ba); exact BK301.out) hb); have n6_ := Aside0.mk (blk_below (g := gb305) (o := .cells #[.int .i64 t302, .int .i64 t303] 24 (0, 0)) (by (with_reducible repeat first|apply bn|apply bd|apply ba); exact BK305.out) hb); have n7_ := Aside0.mk (blk_below (g := gb312) (o := .cells #[.int .i64 t309, .int .i64 t310] 24 (0, 0)) (by (with_reducible repeat first|apply bn|apply bd|apply ba); exact BK312.out) hb); have n8_ := Aside0.mk (below_step (by repeat first|(with_reducible first|exact HB.out|apply la|apply ln|apply ld|refine ls ?_ (Aside0.out (by assumption)))|exact HB.out) hb); have n9_ := Aside0.mk (hbox); have n10_ := Aside0.mk ((by rw [hg]; exact (below_size (by repeat first|(with_reducible first|exact HB.out|apply la|apply ln|apply ld|refine ls ?_ (Aside0.out (by assumption)))|exact HB.out)) : w.heap.size ≤ gb325)); have n11_ := Aside0.mk ((by rw [hg]; exact (below_size (by repeat first|(with_reducible first|exact HB.out|apply la|apply ln|apply ld|refine ls ?_ (Aside0.out (by assumption)))|exact HB.out)) : w.heap.size ≤ gb325)); have n12_ := Aside0.mk ((by rw [hg]; exact Nat.ne_of_lt (blk_lt (g := gb284) (o := .cells #[.int .i64 t280, .int .i64 t281] 24 (0, 0)) (by (with_reducible repeat first|apply bn|apply bd|apply ba); exact BK284.out)) : gb284 ≠ gb325)); have n13_ := Aside0.mk ((by rw [hg]; exact Nat.ne_of_gt (blk_lt (g := gb284) (o := .cells #[.int .i64 t280, .int .i64 t281] 24 (0, 0)) (by (with_reducible repeat first|apply bn|apply bd|apply ba); exact BK284.out)) : gb325 ≠ gb284)); have n14_ := Aside0.mk ((by rw [hg]; exact Nat.ne_of_lt (blk_lt (g := gb285) (o := .cells #[.int .i64 t282, .int .i64 t283] 24 (0, 0)) (by (with_reducible repeat first|apply bn|apply bd|apply ba); exact BK285.out)) : gb285 ≠ gb325)); have n15_ := Aside0.mk ((by rw [hg]; exact Nat.ne_of_gt (blk_lt (g := gb285) (o := .cells #[.int .i64 t282, .int .i64 t283] 24 (0, 0)) (by (with_reducible repeat first|apply bn|apply bd|apply ba); exact BK285.out)) : gb325 ≠ gb285)); have n16_ := Aside0.mk ((by rw [hg]; exact Nat.ne_of_lt (blk_lt (g := gb289) (o := .cells #[.int .i64 t286, .int .i64 t287] 24 (0, 0)) (by (with_reducible repeat first|apply bn|apply bd|apply ba); exact BK289.out)) : gb289 ≠ gb325)); have n17_ := Aside0.mk ((by rw [hg]; exact Nat.ne_of_gt (blk_lt (g := gb289) (o := .cells #[.int .i64 t286, .int .i64 t287] 24 (0, 0)) (by (with_reducible repeat first|apply bn|apply bd|apply ba); exact BK289.out)) : gb325 ≠ gb289)); have n18_ := Aside0.mk ((by rw [hg]; exact Nat.ne_of_lt (blk_lt (g := gb293) (o := .cells #[.int .i64 t290, .int .i64 t291] 24 (0, 0)) (by (with_reducible repeat first|apply bn|apply bd|apply ba); exact BK293.out)) : gb293 ≠ gb325)); have n19_ := Aside0.mk ((by rw [hg]; exact Nat.ne_of_gt (blk_lt (g := gb293) (o := .cells #[.int .i64 t290, .int .i64 t291] 24 (0, 0)) (by (with_reducible repeat first|apply bn|apply bd|apply ba); exact BK293.out)) : gb325 ≠ gb293)); have n20_ := Aside0.mk ((by rw [hg]; exact Nat.ne_of_lt (blk_lt (g := gb297) (o := .cells #[.int .i64 t294, .int .i64 t295] 24 (0, 0)) (by (with_reducible repeat first|apply bn|apply bd|apply ba); exact BK297.out)) : gb297 ≠ gb325)); have n21_ := Aside0.mk ((by rw [hg]; exact Nat.ne_of_gt (blk_lt (g := gb297) (o := .cells #[.int .i64 t294, .int .i64 t295] 24 (0, 0)) (by (with_reducible repeat first|apply bn|apply bd|apply ba); exact BK297.out)) : gb325 ≠ gb297)); have n22_ := Aside0.mk ((by rw [hg]; exact Nat.ne_of_lt (blk_lt (g := gb301) (o := .cells #[.int .i64 t298, .int .i64 t299] 24 (0, 0)) (by (with_reducible repeat first|apply bn|apply bd|apply ba); exact BK301.out)) : gb301 ≠ gb325)); have n23_ := Aside0.mk ((by rw [hg]; exact Nat.ne_of_gt (blk_lt (g := gb301) (o := .cells #[.int .i64 t298, .int .i64 t299] 24 (0, 0)) (by (with_reducible repeat first|apply bn|apply bd|apply ba); exact BK301.out)) : gb325 ≠ gb301)); have n24_ := Aside0.mk ((by rw [hg]; exact Nat.ne_of_lt (blk_lt (g := gb305) (o := .cells #[.int .i64 t302, .int .i64 t303] 24 (0, 0)) (by (with_reducible repeat first|apply bn|apply bd|apply ba); exact BK305.out)) : gb305 ≠ gb325)); have n25_ := Aside0.mk ((by rw [hg]; exact Nat.ne_of_gt (blk_lt (g := gb305) (o := .cells #[.int .i64 t302, .int .i64 t303] 24 (0, 0)) (by (with_reducible repeat first|apply bn|apply bd|apply ba); exact BK305.out)) : gb325 ≠ gb305)); have n26_ := Aside0.mk ((by rw [hg]; exact Nat.ne_of_lt (blk_lt (g := gb312) (o := .cells #[.int .i64 t309, .int .i64 t310] 24 (0, 0)) (by (with_reducible repeat first|apply bn|apply bd|apply ba); exact BK312.out)) : gb312 ≠ gb325)); have n27_ := Aside0.mk ((by rw [hg]; exact Nat.ne_of_gt (blk_lt (g := gb312) (o := .cells #[.int .i64 t309, .int .i64 t310] 24 (0, 0)) (by (with_reducible repeat first|apply bn|apply bd|apply ba); exact BK312.out)) : gb325 ≠ gb312)); clear BK284; clear BK285; clear BK289; clear BK293; clear BK297; clear BK301; clear BK305; clear BK312; clear HB; have BK284 := n0_; have BK285 := n1_; have BK289 := n2_; have BK293 := n3_; have BK297 := n4_; have BK301 := n5_; have BK305 := n6_; have BK312 := n7_; have HB := n8_; have BK325 := n9_; have GW325 := n10_; have GE325 := n11_; have NB284_325 := n12_; have NB325_284 := n13_; have NB285_325 := n14_; have NB325_285 := n15_; have NB289_325 := n16_; have NB325_289 := n17_; have NB293_325 := n18_; have NB325_293 := n19_; have NB297_325 := n20_; have NB325_297 := n21_; have NB301_325 := n22_; have NB325_301 := n23_; have NB305_325 := n24_; have NB325_305 := n25_; have NB312_325 := n26_; have NB325_312 := n27_; clear n0_ n1_ n2_ n3_ n4_ n5_ n6_ n7_ n8_ n9_ n10_ n11_ n12_ n13_ n14_ n15_ n16_ n17_ n18_ n19_ n20_ n21_ n22_ n23_ n24_ n25_ n26_ n27_; clear hb hbox hg; have hnb502 := NB325_284.out; have hnc502 := NB284_325.out; have hnb503 := NB325_285.out; have hnc503 := NB285_325.out; have hnb504 := NB325_289.out; have hnc504 := NB289_325.out; have hnb505 := NB325_293.out; have hnc505 := NB293_325.out; have hnb506 := NB325_297.out; have hnc506 := NB297_325.out; have hnb507 := NB325_301.out; have hnc507 := NB301_325.out; have hnb508 := NB325_305.out; have hnc508 := NB305_325.out; have hnb509 := NB325_312.out; have hnc509 := NB312_325.out; have hcz510_0 : w501.cell? ⟨gb325, 0, none⟩ = some (.int .i64 0) := (blk_cell BK325.out 0).trans rfl; have hcz510_1 : w501.cell? ⟨gb325, 1, none⟩ = some (.int .i64 0) := (blk_cell BK325.out 1).trans rfl; have hfz510_0 := blk_frozen BK325.out 0; have hfz510_1 := blk_frozen BK325.out 1))
           have n0_ : Aside0 (((w501.setCell ⟨gb325, 0, none⟩ (.int .i64 t322)).setCell ⟨gb325, 1, none⟩ (.int .i64 t323)).heap[gb284]? = some (.cells #[.int .i64 t280, .int .i64 t281] 24 (0, 0))) := ⟨by (with_reducible repeat first|apply bn|apply bd|apply ba); refine blk_far ?_ NB284_325.out _; (with_reducible repeat first|apply bn|apply bd|apply ba); refine blk_far ?_ NB284_325.out _; (with_reducible repeat first|apply bn|apply bd|apply ba); exact BK284.out⟩
           have n1_ : Aside0 (((w501.setCell ⟨gb325, 0, none⟩ (.int .i64 t322)).setCell ⟨gb325, 1, none⟩ (.int .i64 t323)).heap[gb285]? = some (.cells #[.int .i64 t282, .int .i64 t283] 24 (0, 0))) := ⟨by (with_reducible repeat first|apply bn|apply bd|apply ba); refine blk_far ?_ NB285_325.out _; (with_reducible repeat first|apply bn|apply bd|apply ba); refine blk_far ?_ NB285_325.out _; (with_reducible repeat first|apply bn|apply bd|apply ba); exact BK285.out⟩
           have n2_ : Aside0 (((w501.setCell ⟨gb325, 0, none⟩ (.int .i64 t322)).setCell ⟨gb325, 1, none⟩ (.int .i64 t323)).heap[gb289]? = some (.cells #[.int .i64 t286, .int .i64 t287] 24 (0, 0))) := ⟨by (with_reducible repeat first|apply bn|apply bd|apply ba); refine blk_far ?_ NB289_325.out _; (with_reducible repeat first|apply bn|apply bd|apply ba); refine blk_far ?_ NB289_325.out _; (with_reducible repeat first|apply bn|apply bd|apply ba); exact BK289.out⟩
           have n3_ : Aside0 (((w501.setCell ⟨gb325, 0, none⟩ (.int .i64 t322)).setCell ⟨gb325, 1, none⟩ (.int .i64 t323)).heap[gb293]? = some (.cells #[.int .i64 t290, .int .i64 t291] 24 (0, 0))) := ⟨by (with_reducible repeat first|apply bn|apply bd|apply ba); refine blk_far ?_ NB293_325.out _; (with_reducible repeat first|apply bn|apply bd|apply ba); refine blk_far ?_ NB293_325.out _; (with_reducible repeat first|apply bn|apply bd|apply ba); exact BK293.out⟩
           have n4_ : Aside0 (((w501.setCell ⟨gb325, 0, none⟩ (.int .i64 t322)).setCell ⟨gb325, 1, none⟩ (.int .i64 t323)).heap[gb297]? = some (.cells #[.int .i64 t294, .int .i64 t295] 24 (0, 0))) := ⟨by (with_reducible repeat first|apply bn|apply bd|apply ba); refine blk_far ?_ NB297_325.out _; (with_reducible repeat first|apply bn|apply bd|apply ba); refine blk_far ?_ NB297_325.out _; (with_reducible repeat first|apply bn|apply bd|apply ba); exact BK297.out⟩
           have n5_ : Aside0 (((w501.setCell ⟨gb325, 0, none⟩ (.int .i64 t322)).setCell ⟨gb325, 1, none⟩ (.int .i64 t323)).heap[gb301]? = some (.cells #[.int .i64 t298, .int .i64 t299] 24 (0, 0))) := ⟨by (with_reducible repeat first|apply bn|apply bd|apply ba); refine blk_far ?_ NB301_325.out _; (with_reducible repeat first|apply bn|apply bd|apply ba); refine blk_far ?_ NB301_325.out _; (with_reducible repeat first|apply bn|apply bd|apply ba); exact BK301.out⟩
           have n6_ : Aside0 (((w501.setCell ⟨gb325, 0, none⟩ (.int .i64 t322)).setCell ⟨gb325, 1, none⟩ (.int .i64 t323)).heap[gb305]? = some (.cells #[.int .i64 t302, .int .i64 t303] 24 (0, 0))) := ⟨by (with_reducible repeat first|apply bn|apply bd|apply ba); refine blk_far ?_ NB305_325.out _; (with_reducible repeat first|apply bn|apply bd|apply ba); refine blk_far ?_ NB305_325.out _; (with_reducible repeat first|apply bn|apply bd|apply ba); exact BK305.out⟩
           have n7_ : Aside0 (((w501.setCell ⟨gb325, 0, none⟩ (.int .i64 t322)).setCell ⟨gb325, 1, none⟩ (.int .i64 t323)).heap[gb312]? = some (.cells #[.int .i64 t309, .int .i64 t310] 24 (0, 0))) := ⟨by (with_reducible repeat first|apply bn|apply bd|apply ba); refine blk_far ?_ NB312_325.out _; (with_reducible repeat first|apply bn|apply bd|apply ba); refine blk_far ?_ NB312_325.out _; (with_reducible repeat first|apply bn|apply bd|apply ba); exact BK312.out⟩
           have n8_ : Aside0 (((w501.setCell ⟨gb325, 0, none⟩ (.int .i64 t322)).setCell ⟨gb325, 1, none⟩ (.int .i64 t323)).heap[gb325]? = some (.cells #[.int .i64 t322, .int .i64 t323] 24 (0, 0))) := ⟨by (with_reducible repeat first|apply bn|apply bd|apply ba); refine blk_put (cs := #[.int .i64 t322, .int .i64 0]) ?_ 1 _ rfl; (with_reducible repeat first|apply bn|apply bd|apply ba); refine blk_put (cs := #[.int .i64 0, .int .i64 0]) ?_ 0 _ rfl; (with_reducible repeat first|apply bn|apply bd|apply ba); exact BK325.out⟩
           have n9_ : Aside0 (Below w.heap.size w ((w501.setCell ⟨gb325, 0, none⟩ (.int .i64 t322)).setCell ⟨gb325, 1, none⟩ (.int .i64 t323))) := ⟨by repeat (first | (with_reducible first | exact HB.out | apply below_alloc | apply pw_below_drewN | apply below_drew1 | refine below_set ?_ GE284.out | refine below_set ?_ GE285.out | refine below_set ?_ GE289.out | refine below_set ?_ GE293.out | refine below_set ?_ GE297.out | refine below_set ?_ GE301.out | refine below_set ?_ GE305.out | refine below_set ?_ GE312.out | refine below_set ?_ GE325.out) | exact HB.out)⟩
           (try clear BK284)
           (try clear BK285)
           (try clear BK289)
           (try clear BK293)
           (try clear BK297)
           (try clear BK301)
           (try clear BK305)
           (try clear BK312)
           (try clear BK325)
           (try clear HB)
           generalize ((w501.setCell ⟨gb325, 0, none⟩ (.int .i64 t322)).setCell ⟨gb325, 1, none⟩ (.int .i64 t323)) = w511 at n0_ n1_ n2_ n3_ n4_ n5_ n6_ n7_ n8_ n9_ ⊢
           have BK284 := n0_
           have BK285 := n1_
           have BK289 := n2_
           have BK293 := n3_
           have BK297 := n4_
           have BK301 := n5_
           have BK305 := n6_
           have BK312 := n7_
           have BK325 := n8_
           have HB := n9_
           clear n0_ n1_ n2_ n3_ n4_ n5_ n6_ n7_ n8_ n9_
           have n0_ := Aside0.mk (blk_drew BK284.out)
           have n1_ := Aside0.mk (blk_drew BK285.out)
           have n2_ := Aside0.mk (blk_drew BK289.out)
           have n3_ := Aside0.mk (blk_drew BK293.out)
           have n4_ := Aside0.mk (blk_drew BK297.out)
           have n5_ := Aside0.mk (blk_drew BK301.out)
           have n6_ := Aside0.mk (blk_drew BK305.out)
           have n7_ := Aside0.mk (blk_drew BK312.out)
           have n8_ := Aside0.mk (blk_drew BK325.out)
           have n9_ := Aside0.mk (below_drew1 HB.out)
           clear BK284;clear BK285;clear BK289;clear BK293;clear BK297;clear BK301;clear BK305;clear BK312;clear BK325;clear HB
           have BK284 := n0_
           have BK285 := n1_
           have BK289 := n2_
           have BK293 := n3_
           have BK297 := n4_
           have BK301 := n5_
           have BK305 := n6_
           have BK312 := n7_
           have BK325 := n8_
           have HB := n9_
           clear n0_ n1_ n2_ n3_ n4_ n5_ n6_ n7_ n8_ n9_
           refine start_ (n := 28) (S := fun w' => w'.cell? ⟨gb284, 0, none⟩ = some (.int .i64 t280) ∧ w'.cell? ⟨gb284, 1, none⟩ = some (.int .i64 t281) ∧ w'.cell? ⟨gb285, 0, none⟩ = some (.int .i64 t282) ∧ w'.cell? ⟨gb285, 1, none⟩ = some (.int .i64 t283)) (ds := []) #[false, false, false, false, false, false, false, false, false, false, false, false, false, false, false, false, false, false, false, false, false, false, false, false, false, false, false, false] (by kernel_rfl) rfl rfl ⟨(blk_cell BK284.out 0).trans rfl, (blk_cell BK284.out 1).trans rfl, (blk_cell BK285.out 0).trans rfl, (blk_cell BK285.out 1).trans rfl⟩ (fun hHeld => ?_); refine with_tabW laws_FnRatios.tab23 laws_FnRatios.bits23 (fun HT_ HW_ => ?_)
           generalize w511.drew = w512 at BK284 BK285 BK289 BK293 BK297 BK301 BK305 BK312 BK325 HB hHeld ⊢
           refine pure_ (i := 0) (N := some 154) (v := ?_) (a' := ?_) #[true, false, false, false, false, false, false, false, false, false, false, false, false, false, false, false, false, false, false, false, false, false, false, false, false, false, false, false] rfl rfl (any_of HT_.out (by kernel_rfl)) (fun _ _ _ h => h) (Or.inl ⟨by rfl, ?_⟩) ?_ ?_
           rotate_left
           ·intro w'
            go_simp
            with_reducible rfl
           rotate_left
           ·simp only [Act.put, List.setIfInBounds_toArray, List.set, i64_w, i32_w]
            rfl
           refine pure_ (i := 1) (N := some 155) (v := ?_) (a' := ?_) #[true, true, false, false, false, false, false, false, false, false, false, false, false, false, false, false, false, false, false, false, false, false, false, false, false, false, false, false] rfl rfl (any_of HT_.out (by kernel_rfl)) (fun _ _ _ h => h) (Or.inl ⟨by rfl, ?_⟩) ?_ ?_
           rotate_left
           ·intro w'
            go_simp
            with_reducible rfl
           rotate_left
           ·simp only [Act.put, List.setIfInBounds_toArray, List.set, i64_w, i32_w]
            rfl
           refine pure_ (i := 2) (N := some 156) (v := ?_) (a' := ?_) #[true, true, true, false, false, false, false, false, false, false, false, false, false, false, false, false, false, false, false, false, false, false, false, false, false, false, false, false] rfl rfl (any_of HT_.out (by kernel_rfl)) (fun _ _ _ h => h) (Or.inl ⟨by rfl, ?_⟩) ?_ ?_
           rotate_left
           ·intro w'
            go_simp
            with_reducible rfl
           rotate_left
           ·simp only [Act.put, List.setIfInBounds_toArray, List.set, i64_w, i32_w]
            rfl
           refine pure_ (i := 3) (N := some 157) (v := undef) (a' := ?_) #[true, true, true, true, false, false, false, false, false, false, false, false, false, false, false, false, false, false, false, false, false, false, false, false, false, false, false, false] rfl rfl (any_of HT_.out (by kernel_rfl)) (fun _ _ _ h => h) (Or.inr ⟨by rfl, rfl⟩) ?_ ?_
           rotate_left
           ·simp only [Act.put, List.setIfInBounds_toArray, List.set, i64_w, i32_w]
            rfl
           refine pure_ (i := 4) (N := some 158) (v := undef) (a' := ?_) #[true, true, true, true, true, false, false, false, false, false, false, false, false, false, false, false, false, false, false, false, false, false, false, false, false, false, false, false] rfl rfl (any_of HT_.out (by kernel_rfl)) (fun _ _ _ h => h) (Or.inr ⟨by rfl, rfl⟩) ?_ ?_
           rotate_left
           ·simp only [Act.put, List.setIfInBounds_toArray, List.set, i64_w, i32_w]
            rfl
           refine pure_ (i := 5) (N := some 159) (v := undef) (a' := ?_) #[true, true, true, true, true, true, false, false, false, false, false, false, false, false, false, false, false, false, false, false, false, false, false, false, false, false, false, false] rfl rfl (any_of HT_.out (by kernel_rfl)) (fun _ _ _ h => h) (Or.inr ⟨by rfl, rfl⟩) ?_ ?_
           rotate_left
           ·simp only [Act.put, List.setIfInBounds_toArray, List.set, i64_w, i32_w]
            rfl
           refine pure_ (i := 6) (N := some 160) (v := undef) (a' := ?_) #[true, true, true, true, true, true, true, false, false, false, false, false, false, false, false, false, false, false, false, false, false, false, false, false, false, false, false, false] rfl rfl (any_of HT_.out (by kernel_rfl)) (fun _ _ _ h => h) (Or.inr ⟨by rfl, rfl⟩) ?_ ?_
           rotate_left
           ·simp only [Act.put, List.setIfInBounds_toArray, List.set, i64_w, i32_w]
            rfl
           refine pure_ (i := 7) (N := some 161) (v := undef) (a' := ?_) #[true, true, true, true, true, true, true, true, false, false, false, false, false, false, false, false, false, false, false, false, false, false, false, false, false, false, false, false] rfl rfl (any_of HT_.out (by kernel_rfl)) (fun _ _ _ h => h) (Or.inr ⟨by rfl, rfl⟩) ?_ ?_
           rotate_left
           ·simp only [Act.put, List.setIfInBounds_toArray, List.set, i64_w, i32_w]
            rfl
           refine pure_ (i := 8) (N := some 162) (v := undef) (a' := ?_) #[true, true, true, true, true, true, true, true, true, false, false, false, false, false, false, false, false, false, false, false, false, false, false, false, false, false, false, false] rfl rfl (any_of HT_.out (by kernel_rfl)) (fun _ _ _ h => h) (Or.inr ⟨by rfl, rfl⟩) ?_ ?_
           rotate_left
           ·simp only [Act.put, List.setIfInBounds_toArray, List.set, i64_w, i32_w]
            rfl
           refine pure_ (i := 9) (N := some 163) (v := undef) (a' := ?_) #[true, true, true, true, true, true, true, true, true, true, false, false, false, false, false, false, false, false, false, false, false, false, false, false, false, false, false, false] rfl rfl (any_of HT_.out (by kernel_rfl)) (fun _ _ _ h => h) (Or.inr ⟨by rfl, rfl⟩) ?_ ?_
           rotate_left
           ·simp only [Act.put, List.setIfInBounds_toArray, List.set, i64_w, i32_w]
            rfl
           refine pure_ (i := 10) (N := some 164) (v := undef) (a' := ?_) #[true, true, true, true, true, true, true, true, true, true, true, false, false, false, false, false, false, false, false, false, false, false, false, false, false, false, false, false] rfl rfl (any_of HT_.out (by kernel_rfl)) (fun _ _ _ h => h) (Or.inr ⟨by rfl, rfl⟩) ?_ ?_
           rotate_left
           ·simp only [Act.put, List.setIfInBounds_toArray, List.set, i64_w, i32_w]
            rfl
           refine pure_ (i := 11) (N := some 165) (v := undef) (a' := ?_) #[true, true, true, true, true, true, true, true, true, true, true, true, false, false, false, false, false, false, false, false, false, false, false, false, false, false, false, false] rfl rfl (any_of HT_.out (by kernel_rfl)) (fun _ _ _ h => h) (Or.inr ⟨by rfl, rfl⟩) ?_ ?_
           rotate_left
           ·simp only [Act.put, List.setIfInBounds_toArray, List.set, i64_w, i32_w]
            rfl
           refine pure_ (i := 12) (N := some 166) (v := undef) (a' := ?_) #[true, true, true, true, true, true, true, true, true, true, true, true, true, false, false, false, false, false, false, false, false, false, false, false, false, false, false, false] rfl rfl (any_of HT_.out (by kernel_rfl)) (fun _ _ _ h => h) (Or.inr ⟨by rfl, rfl⟩) ?_ ?_
           rotate_left
           ·simp only [Act.put, List.setIfInBounds_toArray, List.set, i64_w, i32_w]
            rfl
           refine pure_ (i := 13) (N := some 167) (v := undef) (a' := ?_) #[true, true, true, true, true, true, true, true, true, true, true, true, true, true, false, false, false, false, false, false, false, false, false, false, false, false, false, false] rfl rfl (any_of HT_.out (by kernel_rfl)) (fun _ _ _ h => h) (Or.inr ⟨by rfl, rfl⟩) ?_ ?_
           rotate_left
           ·simp only [Act.put, List.setIfInBounds_toArray, List.set, i64_w, i32_w]
            rfl
           refine pure_ (i := 14) (N := some 168) (v := undef) (a' := ?_) #[true, true, true, true, true, true, true, true, true, true, true, true, true, true, true, false, false, false, false, false, false, false, false, false, false, false, false, false] rfl rfl (any_of HT_.out (by kernel_rfl)) (fun _ _ _ h => h) (Or.inr ⟨by rfl, rfl⟩) ?_ ?_
           rotate_left
           ·simp only [Act.put, List.setIfInBounds_toArray, List.set, i64_w, i32_w]
            rfl
           refine pure_ (i := 15) (N := some 169) (v := undef) (a' := ?_) #[true, true, true, true, true, true, true, true, true, true, true, true, true, true, true, true, false, false, false, false, false, false, false, false, false, false, false, false] rfl rfl (any_of HT_.out (by kernel_rfl)) (fun _ _ _ h => h) (Or.inr ⟨by rfl, rfl⟩) ?_ ?_
           rotate_left
           ·simp only [Act.put, List.setIfInBounds_toArray, List.set, i64_w, i32_w]
            rfl
           refine pure_ (i := 16) (N := some 170) (v := ?_) (a' := ?_) #[true, true, true, true, true, true, true, true, true, true, true, true, true, true, true, true, true, false, false, false, false, false, false, false, false, false, false, false] rfl rfl (any_of HT_.out (by kernel_rfl)) (fun _ _ _ h => h) (Or.inl ⟨by rfl, ?_⟩) ?_ ?_
           rotate_left
           ·intro w'
            go_simp
            with_reducible rfl
           rotate_left
           ·simp only [Act.put, List.setIfInBounds_toArray, List.set, i64_w, i32_w]
            rfl
           refine pure_ (i := 17) (N := some 171) (v := ?_) (a' := ?_) #[true, true, true, true, true, true, true, true, true, true, true, true, true, true, true, true, true, true, false, false, false, false, false, false, false, false, false, false] rfl rfl (any_of HT_.out (by kernel_rfl)) (fun _ _ _ h => h) (Or.inl ⟨by rfl, ?_⟩) ?_ ?_
           rotate_left
           ·intro w'
            go_simp
            with_reducible rfl
           rotate_left
           ·simp only [Act.put, List.setIfInBounds_toArray, List.set, i64_w, i32_w]
            rfl
           refine take_ (i := 18) (N := some 172) (v := ?_) (a' := ?_) #[true, true, true, true, true, true, true, true, true, true, true, true, true, true, true, true, true, true, true, false, false, false, false, false, false, false, false, false] rfl rfl (take_ofW HT_.out HW_.out (by kernel_rfl)) (fun _ _ _ h => h) (Or.inl ⟨by rfl, ?_⟩) hHeld ?_ ?_
           rotate_left
           ·rintro w' ⟨s0, s1, s2, s3⟩
            go_simp
            with_reducible rfl
           rotate_left
           ·simp only [Act.put, List.setIfInBounds_toArray, List.set, i64_w, i32_w]
            rfl
           refine take_ (i := 19) (N := some 173) (v := ?_) (a' := ?_) #[true, true, true, true, true, true, true, true, true, true, true, true, true, true, true, true, true, true, true, true, false, false, false, false, false, false, false, false] rfl rfl (take_ofW HT_.out HW_.out (by kernel_rfl)) (fun _ _ _ h => h) (Or.inl ⟨by rfl, ?_⟩) hHeld ?_ ?_
           rotate_left
           ·rintro w' ⟨s0, s1, s2, s3⟩
            go_simp
            with_reducible rfl
           rotate_left
           ·simp only [Act.put, List.setIfInBounds_toArray, List.set, i64_w, i32_w]
            rfl
           refine take_ (i := 21) (N := some 175) (v := ?_) (a' := ?_) #[true, true, true, true, true, true, true, true, true, true, true, true, true, true, true, true, true, true, true, true, false, true, false, false, false, false, false, false] rfl rfl (take_ofW HT_.out HW_.out (by kernel_rfl)) (fun _ _ _ h => h) (Or.inl ⟨by rfl, ?_⟩) hHeld ?_ ?_
           rotate_left
           ·rintro w' ⟨s0, s1, s2, s3⟩
            go_simp
            with_reducible rfl
           rotate_left
           ·simp only [Act.put, List.setIfInBounds_toArray, List.set, i64_w, i32_w]
            rfl
           refine take_ (i := 22) (N := some 176) (v := ?_) (a' := ?_) #[true, true, true, true, true, true, true, true, true, true, true, true, true, true, true, true, true, true, true, true, false, true, true, false, false, false, false, false] rfl rfl (take_ofW HT_.out HW_.out (by kernel_rfl)) (fun _ _ _ h => h) (Or.inl ⟨by rfl, ?_⟩) hHeld ?_ ?_
           rotate_left
           ·rintro w' ⟨s0, s1, s2, s3⟩
            go_simp
            with_reducible rfl
           rotate_left
           ·simp only [Act.put, List.setIfInBounds_toArray, List.set, i64_w, i32_w]
            rfl
           refine one_ (i := 20) (N := some 174) #[true, true, true, true, true, true, true, true, true, true, true, true, true, true, true, true, true, true, true, true, true, true, true, false, false, false, false, false] rfl rfl (one_of HT_.out (by kernel_rfl)) (by decide) (fun K hK => ?_)
           refine goes_ Try.func20 (by kernel_rfl) rfl #[.agg #[.int .i64 t280, .int .i64 t281], .agg #[.int .i64 t282, .int .i64 t283]] (by rfl) rfl rfl (by (try simp only [List.map_toArray, List.map_cons, List.map_nil]); first|done|rfl) ?_
           with_reducible refine (impl_CompareRatios.calls kj310 t280 t281 t282 t283 t329 _ A497.out).mono ?_
           rintro e w513 ⟨rfl, hb⟩
           refine ⟨_, rfl, ?_⟩
           have n0_ := Aside0.mk (blk_below (g := gb284) (o := .cells #[.int .i64 t280, .int .i64 t281] 24 (0, 0)) (by (with_reducible repeat first|apply bn|apply bd|apply ba); exact BK284.out) hb)
           have n1_ := Aside0.mk (blk_below (g := gb285) (o := .cells #[.int .i64 t282, .int .i64 t283] 24 (0, 0)) (by (with_reducible repeat first|apply bn|apply bd|apply ba); exact BK285.out) hb)
           have n2_ := Aside0.mk (blk_below (g := gb289) (o := .cells #[.int .i64 t286, .int .i64 t287] 24 (0, 0)) (by (with_reducible repeat first|apply bn|apply bd|apply ba); exact BK289.out) hb)
           have n3_ := Aside0.mk (blk_below (g := gb293) (o := .cells #[.int .i64 t290, .int .i64 t291] 24 (0, 0)) (by (with_reducible repeat first|apply bn|apply bd|apply ba); exact BK293.out) hb)
           have n4_ := Aside0.mk (blk_below (g := gb297) (o := .cells #[.int .i64 t294, .int .i64 t295] 24 (0, 0)) (by (with_reducible repeat first|apply bn|apply bd|apply ba); exact BK297.out) hb)
           have n5_ := Aside0.mk (blk_below (g := gb301) (o := .cells #[.int .i64 t298, .int .i64 t299] 24 (0, 0)) (by (with_reducible repeat first|apply bn|apply bd|apply ba); exact BK301.out) hb)
           have n6_ := Aside0.mk (blk_below (g := gb305) (o := .cells #[.int .i64 t302, .int .i64 t303] 24 (0, 0)) (by (with_reducible repeat first|apply bn|apply bd|apply ba); exact BK305.out) hb)
           have n7_ := Aside0.mk (blk_below (g := gb312) (o := .cells #[.int .i64 t309, .int .i64 t310] 24 (0, 0)) (by (with_reducible repeat first|apply bn|apply bd|apply ba); exact BK312.out) hb)
           have n8_ := Aside0.mk (blk_below (g := gb325) (o := .cells #[.int .i64 t322, .int .i64 t323] 24 (0, 0)) (by (with_reducible repeat first|apply bn|apply bd|apply ba); exact BK325.out) hb)
           have n9_ := Aside0.mk (below_step (by repeat first|(with_reducible first|exact HB.out|apply la|apply ln|apply ld|refine ls ?_ (Aside0.out (by assumption)))|exact HB.out) hb)
           clear BK284;clear BK285;clear BK289;clear BK293;clear BK297;clear BK301;clear BK305;clear BK312;clear BK325;clear HB
           have BK284 := n0_
           have BK285 := n1_
           have BK289 := n2_
           have BK293 := n3_
           have BK297 := n4_
           have BK301 := n5_
           have BK305 := n6_
           have BK312 := n7_
           have BK325 := n8_
           have HB := n9_
           clear n0_ n1_ n2_ n3_ n4_ n5_ n6_ n7_ n8_ n9_
           (try clear hb)
           (try clear hb2)
           (try clear hk)
           (try clear hi)
           refine hK.out _ _ ⟨(blk_cell BK284.out 0).trans rfl, (blk_cell BK284.out 1).trans rfl, (blk_cell BK285.out 0).trans rfl, (blk_cell BK285.out 1).trans rfl⟩ (fun hHeld => ?_)
           clear hK K
           refine norm_ (a' := ?_) ?_ ?_
           rotate_left
           ·show Act.put _ (some 174) _ = _
            simp only [Act.put, List.setIfInBounds_toArray, List.set, i64_w, i32_w]
            rfl
           refine one_ (i := 23) (N := some 177) #[true, true, true, true, true, true, true, true, true, true, true, true, true, true, true, true, true, true, true, true, true, true, true, true, false, false, false, false] rfl rfl (one_of HT_.out (by kernel_rfl)) (by decide) (fun K hK => ?_)
           refine goes_ Try.func20 (by kernel_rfl) rfl #[.agg #[.int .i64 t282, .int .i64 t283], .agg #[.int .i64 t280, .int .i64 t281]] (by rfl) rfl rfl (by (try simp only [List.map_toArray, List.map_cons, List.map_nil]); first|done|rfl) ?_
           with_reducible refine (impl_CompareRatios.calls kj310 t282 t283 t280 t281 t330 _ A498.out).mono ?_
           rintro e w514 ⟨rfl, hb⟩
           refine ⟨_, rfl, ?_⟩
           have n0_ := Aside0.mk (blk_below (g := gb284) (o := .cells #[.int .i64 t280, .int .i64 t281] 24 (0, 0)) (by (with_reducible repeat first|apply bn|apply bd|apply ba); exact BK284.out) hb)
           have n1_ := Aside0.mk (blk_below (g := gb285) (o := .cells #[.int .i64 t282, .int .i64 t283] 24 (0, 0)) (by (with_reducible repeat first|apply bn|apply bd|apply ba); exact BK285.out) hb)
           have n2_ := Aside0.mk (blk_below (g := gb289) (o := .cells #[.int .i64 t286, .int .i64 t287] 24 (0, 0)) (by (with_reducible repeat first|apply bn|apply bd|apply ba); exact BK289.out) hb)
           have n3_ := Aside0.mk (blk_below (g := gb293) (o := .cells #[.int .i64 t290, .int .i64 t291] 24 (0, 0)) (by (with_reducible repeat first|apply bn|apply bd|apply ba); exact BK293.out) hb)
           have n4_ := Aside0.mk (blk_below (g := gb297) (o := .cells #[.int .i64 t294, .int .i64 t295] 24 (0, 0)) (by (with_reducible repeat first|apply bn|apply bd|apply ba); exact BK297.out) hb)
           have n5_ := Aside0.mk (blk_below (g := gb301) (o := .cells #[.int .i64 t298, .int .i64 t299] 24 (0, 0)) (by (with_reducible repeat first|apply bn|apply bd|apply ba); exact BK301.out) hb)
           have n6_ := Aside0.mk (blk_below (g := gb305) (o := .cells #[.int .i64 t302, .int .i64 t303] 24 (0, 0)) (by (with_reducible repeat first|apply bn|apply bd|apply ba); exact BK305.out) hb)
           have n7_ := Aside0.mk (blk_below (g := gb312) (o := .cells #[.int .i64 t309, .int .i64 t310] 24 (0, 0)) (by (with_reducible repeat first|apply bn|apply bd|apply ba); exact BK312.out) hb)
           have n8_ := Aside0.mk (blk_below (g := gb325) (o := .cells #[.int .i64 t322, .int .i64 t323] 24 (0, 0)) (by (with_reducible repeat first|apply bn|apply bd|apply ba); exact BK325.out) hb)
           have n9_ := Aside0.mk (below_step (by repeat first|(with_reducible first|exact HB.out|apply la|apply ln|apply ld|refine ls ?_ (Aside0.out (by assumption)))|exact HB.out) hb)
           clear BK284;clear BK285;clear BK289;clear BK293;clear BK297;clear BK301;clear BK305;clear BK312;clear BK325;clear HB
           have BK284 := n0_
           have BK285 := n1_
           have BK289 := n2_
           have BK293 := n3_
           have BK297 := n4_
           have BK301 := n5_
           have BK305 := n6_
           have BK312 := n7_
           have BK325 := n8_
           have HB := n9_
           clear n0_ n1_ n2_ n3_ n4_ n5_ n6_ n7_ n8_ n9_
           (try clear hb)
           (try clear hb2)
           (try clear hk)
           (try clear hi)
           refine hK.out _ _ ⟨(blk_cell BK284.out 0).trans rfl, (blk_cell BK284.out 1).trans rfl, (blk_cell BK285.out 0).trans rfl, (blk_cell BK285.out 1).trans rfl⟩ (fun hHeld => ?_)
           clear hK K
           refine norm_ (a' := ?_) ?_ ?_
           rotate_left
           ·show Act.put _ (some 177) _ = _
            simp only [Act.put, List.setIfInBounds_toArray, List.set, i64_w, i32_w]
            rfl
           refine pure_ (i := 24) (N := some 178) (v := ?_) (a' := ?_) #[true, true, true, true, true, true, true, true, true, true, true, true, true, true, true, true, true, true, true, true, true, true, true, true, true, false, false, false] rfl rfl (any_of HT_.out (by kernel_rfl)) (fun _ _ _ h => h) (Or.inl ⟨by rfl, ?_⟩) ?_ ?_
           rotate_left
           ·intro w'
            go_simp
            with_reducible rfl
           rotate_left
           ·simp only [Act.put, List.setIfInBounds_toArray, List.set, i64_w, i32_w]
            rfl
           refine pure_ (i := 25) (N := some 179) (v := ?_) (a' := ?_) #[true, true, true, true, true, true, true, true, true, true, true, true, true, true, true, true, true, true, true, true, true, true, true, true, true, true, false, false] rfl rfl (any_of HT_.out (by kernel_rfl)) (fun _ _ _ h => h) (Or.inl ⟨by rfl, ?_⟩) ?_ ?_
           rotate_left
           ·intro w'
            go_simp
            with_reducible rfl
           rotate_left
           ·simp only [Act.put, List.setIfInBounds_toArray, List.set, i64_w, i32_w]
            rfl
           refine pure_ (i := 26) (N := some 180) (v := ?_) (a' := ?_) #[true, true, true, true, true, true, true, true, true, true, true, true, true, true, true, true, true, true, true, true, true, true, true, true, true, true, true, false] rfl rfl (any_of HT_.out (by kernel_rfl)) (fun _ _ _ h => h) (Or.inl ⟨by rfl, ?_⟩) ?_ ?_
           rotate_left
           ·intro w'
            go_simp
            with_reducible rfl
           rotate_left
           ·simp only [Act.put, List.setIfInBounds_toArray, List.set, i64_w, i32_w]
            rfl
           refine pure_ (i := 27) (N := some 2) (v := ?_) (a' := ?_) #[true, true, true, true, true, true, true, true, true, true, true, true, true, true, true, true, true, true, true, true, true, true, true, true, true, true, true, true] rfl rfl (any_of HT_.out (by kernel_rfl)) (fun _ _ _ h => h) (Or.inl ⟨by rfl, ?_⟩) ?_ ?_
           rotate_left
           ·intro w'
            go_simp
            with_reducible rfl
           rotate_left
           ·simp only [Act.put, List.setIfInBounds_toArray, List.set, i64_w, i32_w]
            rfl
           refine done_ (done_of HT_.out (by kernel_rfl)) ?_
           try go_wp2
           go_ret
           exact ⟨by first | rfl | (simp [errW_none, errW_some] <;> rfl) | (simp [*, errW_none, errW_some] <;> rfl), by repeat (first | (with_reducible first | exact HB.out | apply below_alloc | apply pw_below_drewN | apply below_drew1 | refine below_set ?_ GE284.out | refine below_set ?_ GE285.out | refine below_set ?_ GE289.out | refine below_set ?_ GE293.out | refine below_set ?_ GE297.out | refine below_set ?_ GE301.out | refine below_set ?_ GE305.out | refine below_set ?_ GE312.out | refine below_set ?_ GE325.out) | exact HB.out)⟩

/-- THE ONE PURE STATEMENT of laws_FnRatios: yours. -/
theorem laws_FnRatios.walk (P : laws_FnRatios.Pure) (a0 : Option Addr) (len0 cap0 : Nat) (z0 : List Int) (w : World) (w0 : (a0 = none ∧ len0 = 0 ∧ cap0 = 0 ∧ z0 = []) ∨ ∃ x, a0 = some x ∧ len0 ≤ cap0 ∧ cap0 ≤ maxLen ∧ z0.length = cap0 ∧ (∀ i, i < z0.length → w.cell? (x.add i) = some (.int .u8 (z0.getD i 0))) ∧ ∀ n ∈ z0, (Lit.int .u8 n).wf = true) (y0 : len0 * 1 ≤ 140737488351232) :
  Calls Try.prog 14 #[.slice a0 len0 cap0] w fun e w' => e = .returned (.bool true) ∧ Below w.heap.size w w' := by
 obtain ⟨l0, rfl, hr0, hm0, hw0, hc0⟩ := ReadsInt.ofRowC w0
 obtain ⟨k, h⟩ := P l0 hm0 y0 hw0
 refine (laws_FnRatios.calls k _ _ l0 true w (Kd.C_of_reads (d := (0 : Int)) (h1 := fun _ => rfl) hr0) hc0 h rfl).mono ?_
 rintro e w' ⟨rfl, hd⟩
 exact ⟨rfl, hd⟩

end Go.Proofs.Ytneiadniopmcnaa.PFnRatios
