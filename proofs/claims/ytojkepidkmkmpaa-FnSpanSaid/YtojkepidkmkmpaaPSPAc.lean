/-
  Goes on where the text before it ends.
  Conditions: none beside the given statement's own.
-/
import Derived.Test.YtojkepidkmkmpaaPSPAb
set_option linter.unusedVariables false
set_option linter.unusedSimpArgs false
section
namespace Go.Proofs.Ytojkepidkmkmpaa.PFnSpan
open Go.Proofs.YtojkepidkmkmpaaW.PrintWords.Aside0 renaming mk → aM
open List renaming setIfInBounds_toArray → qa, set_cons_zero → qz, set_cons_succ → qs
open Bool renaming true → tt, false → ff
open Option renaming bind_eq_some_iff → bE

open Go.RowKit Go.Proofs.YtojkepidkmkmpaaW.PrintWords Go.Proofs.YtojkepidkmkmpaaW.PrintLast Go.Proofs.YtojkepidkmkmpaaW.PrintMore
attribute [local go_sem] max2_int min2_int max_two min_two max_three min_three max_four min_four
set_option linter.unusedVariables false
set_option linter.unusedSimpArgs false
def impl_DotOf.l0 : Nat → List Int → List Int → Int → Int → Int → Option (Int)
 | 0, _, _, _, _, _ => none
 | k + 1, x0, x1, x5, x11, x12 => if x12 < x11 then (if 0 ≤ x12 then (if x12 < (x0.length : Int) then (if x12 < (x1.length : Int) then (impl_DotOf.l0 k x0 x1 (wrap64 (x5 + (wrap64 ((rd x0 x12) * (rd x1 x12))))) x11 (wrap64 (x12 + 1))) else (none)) else (none)) else (none)) else (some x5)
def impl_DotOf.f (k : Nat) (l0 : List Int) (l1 : List Int) : Option (Int) := impl_DotOf.l0 k l0 l1 0 (mn (l0.length : Int) (l1.length : Int)) 0
set_option maxHeartbeats 8000000 in
set_option maxRecDepth 100000 in
theorem impl_DotOf.calls (k : Nat) (A0 : Option Addr) (c0 : Nat) (l0 : List Int) (A1 : Option Addr) (c1 : Nat) (l1 : List Int) (r : Int) (w : World) (hr0 : Kd.C (Kd.int .i64) w A0 l0.length l0) (hc0 : l0.length ≤ c0) (hr1 : Kd.C (Kd.int .i64) w A1 l1.length l1) (hc1 : l1.length ≤ c1) (h : impl_DotOf.f k l0 l1 = some r) :
 Calls Try.prog 55 #[.slice A0 l0.length c0, .slice A1 l1.length c1] w fun e w' => e = .returned (.int .i64 r) ∧ Below w.heap.size w w' := by
 have HR0:=aM hr0;have HC0:=aM hc0;clear hr0 hc0;have HR1:=aM hr1;have HC1:=aM hc1;clear hr1 hc1;have HB:=aM (Below.refl w.heap.size w);have H:(impl_DotOf.l0 k l0 l1 0 (mn (l0.length:Int) (l1.length:Int)) 0)=some r:=h;clear h;obtain ⟨ji3,hji3⟩:∃j_:Int,(mn (l0.length:Int) (l1.length:Int))=j_:=⟨_,rfl⟩;replace H:(impl_DotOf.l0 k l0 l1 0 ji3 0)=some r:=(by first|(rw [hji3] at H;exact H)|(simp only [hji3] at H ⊢;exact H));(try (have hji3l:0≤ji3:=by (rw [← hji3];unfold mn;(repeat' split)<;>omega)));(try (have hji3m:0≤ji3:=by omega));have hji3_:(if (l1.length:Int)<(l0.length:Int) then (l1.length:Int) else (l0.length:Int))=ji3:=hji3;have hji3n:(if l1.length<l0.length then (l1.length:Int) else (l0.length:Int))=ji3:=(by rw [← hji3_];by_cases c:l1.length<l0.length<;>simp [c]);have H':=aM H;clear H;go_enter Try.func55,Try.ntmps55;go_wp2;(repeat (go_quiet (fail);try go_wp2));go_loopg [5,12] k (fun kq v5 v12 w'=>∃(x5_1:Int) (x12_1:Int),v5 = .int .i64 x5_1∧v12 = .int .i64 x12_1∧Aside0 (impl_DotOf.l0 kq l0 l1 x5_1 ji3 x12_1=some r)∧Aside0 (kq≤k)∧Aside0 (Below w.heap.size w w'));(case atStart=>exact ⟨(0),(0),zt,zt,H',⟨Nat.le_refl _⟩,⟨zb HB.out⟩⟩)
 case round=>
  clear H';(try clear c1);(try clear p2);obtain ⟨x5_1,x12_1,rfl,rfl,HA,HK1,HB⟩:=hrel;cases gk with
  | zero=>exact absurd HA.out (by simp [impl_DotOf.l0])
  | succ k1=>
   have H:=HA.out;clear HA;simp only [impl_DotOf.l0] at H;by_cases c4:x12_1<ji3
   ·rw [if_pos c4] at H;have c4b0:decide (x12_1<ji3)=true:=decide_eq_true c4;clear c4;obtain ⟨c5b0,H⟩:=iN H;obtain ⟨c6b0,H⟩:=iN H;obtain ⟨c7b0,H⟩:=iN H;have H':=aM H;clear H;have p141:0≤(x12_1:Int):=zd;have q141:x12_1<(l0.length:Int):=zd;obtain ⟨ad141,e141,hx141_0⟩:=Kd.at_int HR0.out x12_1 p141 q141;cases e141;replace hx141_0:=(HB.out.cell (World.block_lt_of_cell? w _ hx141_0)).trans hx141_0;replace p141:=eq_true p141;replace q141:=eq_true q141;have p142:0≤(x12_1:Int):=zd;have q142:x12_1<(l1.length:Int):=zd;obtain ⟨ad142,e142,hx142_0⟩:=Kd.at_int HR1.out x12_1 p142 q142;cases e142;replace hx142_0:=(HB.out.cell (World.block_lt_of_cell? w _ hx142_0)).trans hx142_0;replace p142:=eq_true p142;replace q142:=eq_true q142;go_wp2;(repeat (go_quiet (fail);try go_wp2));go_roundg k1;(case measure=>have:=HK1.out;omega);(case rel=>exact ⟨(wrap64 (x5_1+(wrap64 ((rd l0 x12_1)*(rd l1 x12_1))))),(wrap64 (x12_1+1)),zt,zt,H',⟨by have:=HK1.out;omega⟩,⟨zb HB.out⟩⟩)
   ·rw [if_neg c4] at H;have c4b0:decide (x12_1<ji3)=false:=decide_eq_false c4;clear c4;obtain rfl:=Option.some.inj H;go_wp2;(repeat (go_quiet (fail);try go_wp2));go_ret;exact ⟨by first|rfl|(simp [errW_none,errW_some]<;>rfl)|(simp only [← hji3];first|rfl|(simp [errW_none,errW_some]<;>rfl))|(simp [*,errW_none,errW_some]<;>rfl),zb HB.out⟩
mutual
def impl_NullVector.j0 : Nat → List (List Int) → List Int → Int → Bool → Option (List Int)
 | 0, _, _, _, _ => none
 | k + 1, x0, x1, x5, x34 => if x34 = true then (some ([] : List Int)) else ((impl_reduceAny.f k x0 x5).bind fun t163 => (if 0 ≤ x5 then (if (x5 : Int).toNat ≤ 281474976710656 then (impl_NullVector.l0 k x1 x5 t163 1 (List.replicate (x5 : Int).toNat false) t163 (t163.length : Int) 0) else (none)) else (none)))
def impl_NullVector.l0 : Nat → List Int → Int → List (List Int) → Int → List Bool → List (List Int) → Int → Int → Option (List Int)
 | 0, _, _, _, _, _, _, _, _ => none
 | k + 1, x1, x5, x6, x7, x8, x40, x41, x42 => if x42 < x41 then (if 0 ≤ x42 then (if x42 < (x40.length : Int) then ((impl_lead.f k (rd_L1 x40 x42)).bind fun t170 => (if 0 ≤ t170 then (if t170 < (x8.length : Int) then (if t170 < ((rd_L1 x40 x42).length : Int) then ((impl_gcd.f k x7 (rd (rd_L1 x40 x42) t170)).bind fun t173 => (if t173 = 0 then (none) else (impl_NullVector.l0 k x1 x5 x6 (wrap64 ((wrap64 (Int.tdiv x7 t173)) * (rd (rd_L1 x40 x42) t170))) (x8.set (t170 : Int).toNat true) x40 x41 (wrap64 (x42 + 1))))) else (none)) else (none)) else (none))) else (none)) else (none)) else (impl_NullVector.l1 k x1 x5 x6 x7 x8 x5 0)
def impl_NullVector.l1 : Nat → List Int → Int → List (List Int) → Int → List Bool → Int → Int → Option (List Int)
 | 0, _, _, _, _, _, _, _ => none
 | k + 1, x1, x5, x6, x7, x8, x65, x66 => if x66 < x65 then (if 0 ≤ x66 then (if x66 < (x8.length : Int) then (if rdOf false x8 x66 = true then (impl_NullVector.l1 k x1 x5 x6 x7 x8 x65 (wrap64 (x66 + 1))) else (if 0 ≤ x5 then (if (x5 : Int).toNat ≤ 35184372088832 then ((some (List.replicate (x5 : Int).toNat 0 : List Int)).bind fun y176 => (if x66 < (y176.length : Int) then (impl_NullVector.l2 k x1 x5 x6 x7 x8 x66 (y176.set (x66 : Int).toNat x7) x65 x66 x6 (x6.length : Int) 0) else (none))) else (none)) else (none))) else (none)) else (none)) else (some ([] : List Int))
def impl_NullVector.l2 : Nat → List Int → Int → List (List Int) → Int → List Bool → Int → List Int → Int → Int → List (List Int) → Int → Int → Option (List Int)
 | 0, _, _, _, _, _, _, _, _, _, _, _, _ => none
 | k + 1, x1, x5, x6, x7, x8, x12, x13, x65, x66, x79, x80, x81 => if x81 < x80 then (if 0 ≤ x81 then (if x81 < (x79.length : Int) then ((impl_lead.f k (rd_L1 x79 x81)).bind fun t181 => (if 0 ≤ x12 then (if x12 < ((rd_L1 x79 x81).length : Int) then (if 0 ≤ t181 then (if t181 < ((rd_L1 x79 x81).length : Int) then (if (rd (rd_L1 x79 x81) t181) = 0 then (none) else (if t181 < (x13.length : Int) then (impl_NullVector.l2 k x1 x5 x6 x7 x8 x12 (x13.set (t181 : Int).toNat (wrap64 ((wrap64 (-(rd (rd_L1 x79 x81) x12))) * (wrap64 (Int.tdiv x7 (rd (rd_L1 x79 x81) t181)))))) x65 x66 x79 x80 (wrap64 (x81 + 1))) else (none))) else (none)) else (none)) else (none)) else (none))) else (none)) else (none)) else ((impl_DotOf.f k x13 x1).bind fun t185 => (if t185 = 0 then (impl_NullVector.l1 k x1 x5 x6 x7 x8 x65 (wrap64 (x66 + 1))) else (some x13)))
end
def impl_NullVector.f (k : Nat) (l0 : List (List Int)) (l1 : List Int) : Option (List Int) := (impl_IsMatrix.f k l0 (l1.length : Int)).bind fun t157 => (if t157 = true then ((impl_IsMatrix.f k (([l1] : List (List Int))) (l1.length : Int)).bind fun t161 => (if t161 = true then ((impl_IsInSpan.f k l0 l1).bind fun t162 => (impl_NullVector.j0 k l0 l1 (l1.length : Int) t162)) else (impl_NullVector.j0 k l0 l1 (l1.length : Int) true))) else (impl_NullVector.j0 k l0 l1 (l1.length : Int) true))
def impl_NullVector.T12 : Bool × List (List Nat × List Nat) := (true, [([], []), ([], []), ([], []), ([], []), ([2, 3], [2, 3]), ([4], [4]), ([1, 5], [1, 5]), ([0, 6], [0, 6]), ([], []), ([], []), ([8, 9], [8, 9]), ([10], [10]), ([7, 11], [7, 11]), ([12, 6, 0, 1, 2, 3, 4, 5, 6, 7, 8, 9, 10, 11, 12], [0, 1, 12])])
def impl_NullVector.B12 : List Nat := [0, 0, 0, 0, 12, 28, 62, 127, 0, 0, 768, 1792, 4095, 8191]
theorem impl_NullVector.tab12 : rtab .any (opsOf Try.f42 12) = impl_NullVector.T12 := by kernel_rfl
theorem impl_NullVector.bits12 : waitsOk impl_NullVector.T12.2 impl_NullVector.B12 = true := by kernel_rfl
def impl_NullVector.T24 : Bool × List (List Nat × List Nat) := (true, [([], []), ([], []), ([], []), ([], []), ([2, 3], [2, 3]), ([4], [4]), ([5], [5]), ([], []), ([], []), ([], []), ([8, 9], [8, 9]), ([10], [10]), ([7, 11], [7, 11]), ([6, 12], [6, 12]), ([0, 1, 0, 1, 2, 3, 4, 5, 6, 7, 8, 9, 10, 11, 12, 13], [0, 1]), ([14, 13, 0, 1, 2, 3, 4, 5, 6, 7, 8, 9, 10, 11, 12, 13], [13, 14])])
def impl_NullVector.B24 : List Nat := [0, 0, 0, 0, 12, 28, 60, 0, 0, 0, 768, 1792, 3968, 8188, 16383, 32767]
theorem impl_NullVector.tab24 : rtab .any (opsOf Try.f42 24) = impl_NullVector.T24 := by kernel_rfl
theorem impl_NullVector.bits24 : waitsOk impl_NullVector.T24.2 impl_NullVector.B24 = true := by kernel_rfl
set_option maxHeartbeats 8000000 in
set_option maxRecDepth 100000 in
theorem impl_NullVector.callsV (k : Nat) (A0 : Option Addr) (c0 : Nat) (l0 : List (List Int)) (P1_ : Nat → Prop) (A1 : Option Addr) (c1 : Nat) (l1 : List Int) (r : List Int) (w : World) (hr0 : Kd.C (Kd.slice 3 (Kd.int .i64)) w A0 l0.length l0) (hc0 : l0.length ≤ c0) (hs1 : Kd.V (Kd.int .i64) 3 w w.heap.size (fun k_ => P1_ k_) (.slice A1 l1.length c1) l1) (h : impl_NullVector.f k l0 l1 = some r) :
  Calls Try.prog 42 #[.slice A0 l0.length c0, .slice A1 l1.length c1] w fun e w' => ∃ v0_ : Value, e = .returned (v0_) ∧ Kd.R (Kd.int .i64) 3 w' w.heap.size (fun k_ => (w.heap.size ≤ k_)) v0_ r ∧ Below w.heap.size w w' := by
 have HR0 := Aside0.mk hr0
 have HC0 := Aside0.mk hc0
 clear hr0 hc0
 have HO1 := Aside0.mk (show Kd.V (Kd.int .i64) 3 w w.heap.size (fun k_ => (P1_ k_ ∨ w.heap.size ≤ k_)) (.slice A1 l1.length c1) l1 from Kd.V_mono hs1 (fun k_ hk => .inl hk))
 have HB := Aside0.mk (Below.refl w.heap.size w)
 have H : ((impl_IsMatrix.f k l0 (l1.length : Int)).bind fun t157 => (if t157 = true then ((impl_IsMatrix.f k (([l1] : List (List Int))) (l1.length : Int)).bind fun t161 => (if t161 = true then ((impl_IsInSpan.f k l0 l1).bind fun t162 => (impl_NullVector.j0 k l0 l1 (l1.length : Int) t162)) else (impl_NullVector.j0 k l0 l1 (l1.length : Int) true))) else (impl_NullVector.j0 k l0 l1 (l1.length : Int) true))) = some r := h
 clear h
 have HC3 := Aside0.mk H
 clear H
 go_enter Try.func42, Try.ntmps42
 go_upto_region 2 with (fail)
 go_cut [34] (fun v34 wc => ∃ (kq : Nat) (x34_2 : Bool), v34 = .bool x34_2 ∧ Aside0 (impl_NullVector.j0 kq l0 l1 (l1.length : Int) x34_2 = some r) ∧ Aside0 (kq ≤ k) ∧ Aside0 (Kd.V (Kd.int .i64) 3 wc w.heap.size (fun k_ => (P1_ k_ ∨ w.heap.size ≤ k_)) (.slice A1 l1.length c1) l1) ∧ Aside0 (Below w.heap.size w wc))
 case first =>
  have H := HC3.out
  clear HC3
  replace H := Option.bind_eq_some_iff.mp H
  obtain ⟨t157, A40, H⟩ := H
  replace H : (if t157 = true then ((impl_IsMatrix.f k (([l1] : List (List Int))) (l1.length : Int)).bind fun t161 => (if t161 = true then ((impl_IsInSpan.f k l0 l1).bind fun t162 => (impl_NullVector.j0 k l0 l1 (l1.length : Int) t162)) else (impl_NullVector.j0 k l0 l1 (l1.length : Int) true))) else (impl_NullVector.j0 k l0 l1 (l1.length : Int) true)) = some r := H
  have A4 := Aside0.mk A40
  clear A40
  by_cases c5 : t157 = true
  ·subst c5
   have H1 : ((impl_IsMatrix.f k (([l1] : List (List Int))) (l1.length : Int)).bind fun t161 => (if t161 = true then ((impl_IsInSpan.f k l0 l1).bind fun t162 => (impl_NullVector.j0 k l0 l1 (l1.length : Int) t162)) else (impl_NullVector.j0 k l0 l1 (l1.length : Int) true))) = some r := by rw [if_pos rfl] at H;exact H
   clear H
   have H := H1
   clear H1
   obtain ⟨y158, hy158⟩ : ∃ y_ : List (List Int), y_ = (([l1] : List (List Int))) := ⟨_, rfl⟩
   replace H : ((impl_IsMatrix.f k y158 (l1.length : Int)).bind fun t161 => (if t161 = true then ((impl_IsInSpan.f k l0 l1).bind fun t162 => (impl_NullVector.j0 k l0 l1 (l1.length : Int) t162)) else (impl_NullVector.j0 k l0 l1 (l1.length : Int) true))) = some r := by first|(rw [hy158];with_reducible exact H)|(have H2_ := (Option.bind_some _ _).symm.trans H;rw [hy158];with_reducible exact H2_)|(have H2_ := (Option.bind_some _ _).symm.trans H;with_reducible exact H2_)|with_reducible exact H|(rw [hy158];exact H)|exact H
   have Ny158 := Aside0.mk hy158
   clear hy158
   replace H := Option.bind_eq_some_iff.mp H
   obtain ⟨t161, A60, H⟩ := H
   replace H : (if t161 = true then ((impl_IsInSpan.f k l0 l1).bind fun t162 => (impl_NullVector.j0 k l0 l1 (l1.length : Int) t162)) else (impl_NullVector.j0 k l0 l1 (l1.length : Int) true)) = some r := H
   have A6 := Aside0.mk A60
   clear A60
   by_cases c7 : t161 = true
   ·subst c7
    have H1 : ((impl_IsInSpan.f k l0 l1).bind fun t162 => (impl_NullVector.j0 k l0 l1 (l1.length : Int) t162)) = some r := by rw [if_pos rfl] at H;exact H
    clear H
    have H := H1
    clear H1
    replace H := Option.bind_eq_some_iff.mp H
    obtain ⟨t162, A80, H⟩ := H
    replace H : (impl_NullVector.j0 k l0 l1 (l1.length : Int) t162) = some r := H
    have A8 := Aside0.mk A80
    clear A80
    have H' := Aside0.mk H
    clear H
    go_wp2_with ((with_reducible refine gate_callee (f := 40) rfl ?_);refine goesL_ (some 21) rfl rfl Try.func40 (by kernel_rfl) rfl #[.slice A0 l0.length c0, .int .i64 (l1.length : Int)] rfl (by (try simp only [List.map_toArray, List.map_cons, List.map_nil]);first|done|rfl|(simp only [List.length_drop, List.length_take];rfl)) ?_;(with_reducible refine (impl_IsMatrix.calls k _ _ l0 (l1.length : Int) true _ ?side1 ?side2 A4.out).mono ?_);(case side1 => repeat (first|exact (Kd.C_below HR0.out HB.out)|(with_reducible refine Kd.C_alloc ?_ _)|(with_reducible refine Kd.C_drewN ?_ _)|(with_reducible refine Kd.C_drew ?_)));(case side2 => exact HC0.out);rintro e w' ⟨rfl, ⟨nd, rfl⟩⟩;refine ⟨_, rfl, ?_⟩)
    have A6b := Aside0.mk (show impl_IsMatrix.f k ([l1] : List (List Int)) (l1.length : Int) = some true by rw [← Ny158.out];exact A6.out)
    refine (impl_IsMatrix.calls k _ _ ([l1] : List (List Int)) (l1.length : Int) true _ ?sideA ?sideB A6b.out).mono ?_
    case sideA => exact YtojkepidkmkmpaaRed.one_C (Kd.C_alloc (Kd.C_drewN (Kd.V_reads' HO1.out).2.2 _) _) (Kd.V_reads' HO1.out).2.1 (YtojkepidkmkmpaaRed.cell_new _ _ _)
    case sideB => exact Nat.le_refl _
    rintro e w' ⟨rfl, ⟨nd2_, rfl⟩⟩
    go_wp2_with fail
    refine (impl_IsInSpan.callsV k (fun k_ => k_ < w.heap.size) _ _ l0 (fun k_ => (P1_ k_ ∨ w.heap.size ≤ k_)) _ _ l1 t162 _ ?sideC ?sideD A8.out).mono ?_
    case sideC => exact Kd.V_mk HC0.out (Kd.F_below (Kd.C_F (Kd.heap_slice 3 (Kd.heap_int .i64)) HR0.out) (by repeat first|(with_reducible first|exact HB.out|apply below_alloc|apply pw_below_drewN|apply below_drew1)|exact HB.out))
    case sideD => exact Kd.V_drewN (Kd.V_alloc (Kd.V_drewN HO1.out _) _) _
    rintro e w12 ⟨rfl, hb⟩
    have n0_ := Aside0.mk (Kd.V_below (Kd.V_drewN (Kd.V_alloc (Kd.V_drewN HO1.out _) _) _) hb)
    have n2_ := Aside0.mk (below_step (by repeat first|(with_reducible first|exact HB.out|apply below_alloc|apply pw_below_drewN|apply below_drew1)|exact HB.out) hb)
    clear HO1;clear HB;have HO1 := n0_;have HB := n2_;clear n0_ n2_ hb
    go_wp2
    go_meet
    case rel => exact ⟨_, (t162), (by first|rfl|(simp;done)|(simp [*];done)), H', ⟨by first|omega|exact Nat.le_refl _⟩, ⟨by (with_reducible repeat (first|apply Kd.V_alloc|apply Kd.V_drewN|apply Kd.V_drew));(first|exact HO1.out|exact Kd.V_mono HO1.out (fun _ hk => hk.1))⟩, ⟨by repeat (first|(with_reducible first|exact HB.out|apply below_alloc|apply pw_below_drewN|apply below_drew1)|exact HB.out)⟩⟩
   ·replace c7 := Bool.eq_false_iff.mpr c7
    subst c7
    have H1 : (impl_NullVector.j0 k l0 l1 (l1.length : Int) true) = some r := by rw [if_neg (show ¬ (false = true) by decide)] at H;exact H
    clear H
    have H := H1
    clear H1
    have H' := Aside0.mk H
    clear H
    go_wp2_with ((with_reducible refine gate_callee (f := 40) rfl ?_);refine goesL_ (some 21) rfl rfl Try.func40 (by kernel_rfl) rfl #[.slice A0 l0.length c0, .int .i64 (l1.length : Int)] rfl (by (try simp only [List.map_toArray, List.map_cons, List.map_nil]);first|done|rfl|(simp only [List.length_drop, List.length_take];rfl)) ?_;(with_reducible refine (impl_IsMatrix.calls k _ _ l0 (l1.length : Int) true _ ?side1 ?side2 A4.out).mono ?_);(case side1 => repeat (first|exact (Kd.C_below HR0.out HB.out)|(with_reducible refine Kd.C_alloc ?_ _)|(with_reducible refine Kd.C_drewN ?_ _)|(with_reducible refine Kd.C_drew ?_)));(case side2 => exact HC0.out);rintro e w' ⟨rfl, ⟨nd, rfl⟩⟩;refine ⟨_, rfl, ?_⟩)
    have A6b := Aside0.mk (show impl_IsMatrix.f k ([l1] : List (List Int)) (l1.length : Int) = some false by rw [← Ny158.out];exact A6.out)
    refine (impl_IsMatrix.calls k _ _ ([l1] : List (List Int)) (l1.length : Int) false _ ?sideA ?sideB A6b.out).mono ?_
    case sideA => exact YtojkepidkmkmpaaRed.one_C (Kd.C_alloc (Kd.C_drewN (Kd.V_reads' HO1.out).2.2 _) _) (Kd.V_reads' HO1.out).2.1 (YtojkepidkmkmpaaRed.cell_new _ _ _)
    case sideB => exact Nat.le_refl _
    rintro e w' ⟨rfl, ⟨nd2_, rfl⟩⟩
    go_wp2
    go_meet
    case rel => exact ⟨_, (true), (by first|rfl|(simp;done)|(simp [*];done)), H', ⟨by first|omega|exact Nat.le_refl _⟩, ⟨by (with_reducible repeat (first|apply Kd.V_alloc|apply Kd.V_drewN|apply Kd.V_drew));(first|exact HO1.out|exact Kd.V_mono HO1.out (fun _ hk => hk.1))⟩, ⟨by repeat (first|(with_reducible first|exact HB.out|apply below_alloc|apply pw_below_drewN|apply below_drew1)|exact HB.out)⟩⟩
  ·replace c5 := Bool.eq_false_iff.mpr c5
   subst c5
   have H1 : (impl_NullVector.j0 k l0 l1 (l1.length : Int) true) = some r := by rw [if_neg (show ¬ (false = true) by decide)] at H;exact H
   clear H
   have H := H1
   clear H1
   have H' := Aside0.mk H
   clear H
   go_wp2_with (first|((with_reducible refine gate_callee (f := 40) rfl ?_);refine goesL_ (some 21) rfl rfl Try.func40 (by kernel_rfl) rfl #[.slice A0 l0.length c0, .int .i64 (l1.length : Int)] rfl (by (try simp only [List.map_toArray, List.map_cons, List.map_nil]);first|done|rfl|(simp only [List.length_drop, List.length_take];rfl)) ?_;(with_reducible refine (impl_IsMatrix.calls k _ _ l0 (l1.length : Int) false _ ?side1 ?side2 A4.out).mono ?_);(case side1 => repeat (first|exact (Kd.C_below HR0.out HB.out)|(with_reducible refine Kd.C_alloc ?_ _)|(with_reducible refine Kd.C_drewN ?_ _)|(with_reducible refine Kd.C_drew ?_)));(case side2 => exact HC0.out);rintro e w' ⟨rfl, ⟨nd, rfl⟩⟩;refine ⟨_, rfl, ?_⟩))
   go_meet
   case rel => exact ⟨_, (true), (by first|rfl|(simp;done)|(simp [*];done)), H', ⟨by first|omega|exact Nat.le_refl _⟩, ⟨by (with_reducible repeat (first|apply Kd.V_alloc|apply Kd.V_drewN|apply Kd.V_drew));exact HO1.out⟩, ⟨by repeat (first|(with_reducible first|exact HB.out|apply below_alloc|apply pw_below_drewN|apply below_drew1)|exact HB.out)⟩⟩
 case rest =>
  clear HC3
  try clear c1
  try clear p2
  try clear c4
  try clear c5
  try clear c7
  obtain ⟨kq, x34_2, rfl, HA, HJ2, HO_1, HB⟩ := hcut
  cases kq with
 |zero => exact absurd HA.out (by simp [impl_NullVector.j0])
 |succ kj2 =>
   have H := HA.out
   clear HA
   simp only [impl_NullVector.j0] at H
   by_cases c16 : x34_2 = true
   ·subst c16
    have H1 : (some ([] : List Int)) = some r := by rw [if_pos rfl] at H;exact H
    clear H
    have H := H1
    clear H1
    obtain rfl := Option.some.inj H
    go_wp2
    go_ret
    exact ⟨_, by first|rfl|(simp [errW_none, errW_some] <;> rfl)|(simp [*, errW_none, errW_some] <;> rfl), by first|exact Kd.R_nil _ _ _ _ _|exact Kd.N_nil _ _ _ _ _|exact Kd.V_nil _ _ _ _ _|exact Kd.Q_nil _ _ _ _ _|exact Kd.S_nil _ _ _ _ _, by repeat (first|(with_reducible first|exact HB.out|apply below_alloc|apply pw_below_drewN|apply below_drew1)|exact HB.out)⟩
   ·replace c16 := Bool.eq_false_iff.mpr c16
    subst c16
    have H1 : ((impl_reduceAny.f kj2 l0 (l1.length : Int)).bind fun t163 => (if 0 ≤ (l1.length : Int) then (if ((l1.length : Int) : Int).toNat ≤ 281474976710656 then (impl_NullVector.l0 kj2 l1 (l1.length : Int) t163 1 (List.replicate ((l1.length : Int) : Int).toNat false) t163 (t163.length : Int) 0) else (none)) else (none))) = some r := by rw [if_neg (show ¬ (false = true) by decide)] at H;exact H
    clear H
    have H := H1
    clear H1
    replace H := Option.bind_eq_some_iff.mp H
    obtain ⟨t163, A170, H⟩ := H
    replace H : (if 0 ≤ (l1.length : Int) then (if ((l1.length : Int) : Int).toNat ≤ 281474976710656 then (impl_NullVector.l0 kj2 l1 (l1.length : Int) t163 1 (List.replicate ((l1.length : Int) : Int).toNat false) t163 (t163.length : Int) 0) else (none)) else (none)) = some r := H
    have A17 := Aside0.mk A170
    clear A170
    by_cases c18 : 0 ≤ (l1.length : Int)
    ·rw [if_pos c18] at H
     have c18b0 := eq_true c18
     have c18b1 : decide (0 ≤ (l1.length : Int)) = true := decide_eq_true c18
     clear c18
     by_cases c19 : ((l1.length : Int) : Int).toNat ≤ 281474976710656
     ·rw [if_pos c19] at H
      have c19b0 := eq_true c19
      have c19b1 : decide (((l1.length : Int) : Int).toNat ≤ 281474976710656) = true := decide_eq_true c19
      clear c19
      obtain ⟨y166, hy166⟩ : ∃ y_ : List Bool, y_ = (List.replicate ((l1.length : Int) : Int).toNat false) := ⟨_, rfl⟩
      replace H : (impl_NullVector.l0 kj2 l1 (l1.length : Int) t163 1 y166 t163 (t163.length : Int) 0) = some r := by first|(rw [hy166];with_reducible exact H)|(have H2_ := (Option.bind_some _ _).symm.trans H;rw [hy166];with_reducible exact H2_)|(have H2_ := (Option.bind_some _ _).symm.trans H;with_reducible exact H2_)|with_reducible exact H|(rw [hy166];exact H)|exact H
      have Ny166 := Aside0.mk hy166
      clear hy166
      have H' := Aside0.mk H
      clear H
      go_wp2_with (first|((with_reducible refine gate_callee (f := 77) rfl ?_);refine goesL_ (some 37) rfl rfl Try.func77 (by kernel_rfl) rfl #[.slice A0 l0.length c0, .int .i64 (l1.length : Int)] rfl (by (try simp only [List.map_toArray, List.map_cons, List.map_nil]);first|done|rfl|(simp only [List.length_drop, List.length_take];rfl)) ?_;(with_reducible refine (impl_reduceAny.calls kj2 _ _ l0 (l1.length : Int) t163 _ ?side1 ?side2 A17.out).mono ?_);(case side1 => repeat (first|exact (Kd.C_below HR0.out HB.out)|(with_reducible refine Kd.C_alloc ?_ _)|(with_reducible refine Kd.C_drewN ?_ _)|(with_reducible refine Kd.C_drew ?_)));(case side2 => exact HC0.out);rintro e w20 ⟨v164, rfl, ho0, hb⟩;refine ⟨_, rfl, ?_⟩;have n0_ := Aside0.mk (Kd.V_elder' (by (with_reducible repeat (first|apply Kd.V_alloc|apply Kd.V_drewN|apply Kd.V_drew));exact HO_1.out) (by first|exact Kd.N_base ho0|exact Kd.S_base ho0) hb);have n1_ := Aside0.mk (Kd.N_lower (Kd.N_mono (ok' := fun k_ => (P1_ k_ ∨ w.heap.size ≤ k_)) (Kd.S_N (Kd.S_bound ho0)) (fun k_ hk_ => (.inr (Nat.le_trans (below_size (by repeat first|(with_reducible first|exact HB.out|apply below_alloc|apply pw_below_drewN|apply below_drew1)|exact HB.out)) hk_.2.1)))) (below_size (by repeat first|(with_reducible first|exact HB.out|apply below_alloc|apply pw_below_drewN|apply below_drew1)|exact HB.out)));have n2_ := Aside0.mk (below_step (by repeat first|(with_reducible first|exact HB.out|apply below_alloc|apply pw_below_drewN|apply below_drew1)|exact HB.out) hb);clear HO_1;clear HB;have HO_1 := n0_;have HO165 := n1_;have HB := n2_;clear n0_ n1_ n2_;(try clear hb);(try clear hb2);(try clear hk);(try clear hi);(try clear ho0))|((with_reducible refine gate_dst (N := 39) rfl ?_);(try (refine gate_guard (by rfl) ?_;dsimp only));refine Kd.R_make Kd.bool _ 4 rfl (N := 39) rfl 81 _ _ rfl (l1.length : Int) rfl rfl Try.underlying81 (.bool false) 1 info4 rfl (by decide) (by omega) false (ok := fun _ => True) (okp := fun _ => True) rfl (fun _ hk => hk) trivial (of_decide_eq_true (by first|(with_reducible assumption)|assumption)) (Nat.le_trans (Nat.mul_le_mul_right _ (of_decide_eq_true (by first|(with_reducible assumption)|assumption) : (l1.length : Int).toNat ≤ 281474976710656)) (by omega)) (Below.refl _ _) (Nat.le_refl _) ?_;intro v167 w21 ho22 hb hg_ hnew_;clear hg_ hnew_;(first|rw [← Ny166.out] at ho22|(simp only [Int.reduceToNat] at ho22;rw [← Ny166.out] at ho22));have n0_ := Aside0.mk (Kd.V_elder' (by (with_reducible repeat (first|apply Kd.V_alloc|apply Kd.V_drewN|apply Kd.V_drew));exact HO_1.out) (Kd.R_base ho22) hb);have n1_ := Aside0.mk (Kd.N_elder' (by (with_reducible repeat (first|apply Kd.N_alloc|apply Kd.N_drewN|apply Kd.N_drew));exact HO165.out) (Kd.R_base ho22) hb);have n2_ := Aside0.mk (Kd.R_lower (Kd.R_newM (M := fun k_ => (w.heap.size ≤ k_)) ho22 (below_size (by repeat first|(with_reducible first|exact HB.out|apply below_alloc|apply pw_below_drewN|apply below_drew1)|exact HB.out)) (fun k_ h_ => h_)) (below_size (by repeat first|(with_reducible first|exact HB.out|apply below_alloc|apply pw_below_drewN|apply below_drew1)|exact HB.out)));have n3_ := Aside0.mk (below_step (by repeat first|(with_reducible first|exact HB.out|apply below_alloc|apply pw_below_drewN|apply below_drew1)|exact HB.out) hb);clear HO_1;clear HO165;clear HB;have HO_1 := n0_;have HO165 := n1_;have HO168 := n2_;have HB := n3_;clear n0_ n1_ n2_ n3_;clear hb ho22;obtain ⟨Ao23, co23, eo23⟩ := Kd.N_slice HO165.out;subst eo23))
      go_loopg [7, 42] kj2 (fun kq v7 v42 w' => ∃ (x7_2 : Int) (x8_2 : List Bool) (x42_2 : Int), v7 = .int .i64 x7_2 ∧ v42 = .int .i64 x42_2 ∧ Aside0 (impl_NullVector.l0 kq l1 (l1.length : Int) t163 x7_2 x8_2 t163 (t163.length : Int) x42_2 = some r) ∧ Aside0 (kq ≤ kj2) ∧ Aside0 (Kd.V (Kd.int .i64) 3 w' w.heap.size (fun k_ => (P1_ k_ ∨ w.heap.size ≤ k_) ∧ some k_ ≠ ((.slice Ao23 t163.length co23) : Value).ownBlock ∧ some k_ ≠ (v167 : Value).ownBlock ∧ some k_ ≠ ((.slice Ao23 t163.length co23) : Value).ownBlock) (.slice A1 l1.length c1) l1) ∧ Aside0 (Kd.N (Kd.slice 3 (Kd.int .i64)) 23 w' w.heap.size (fun k_ => (P1_ k_ ∨ w.heap.size ≤ k_) ∧ some k_ ≠ (v167 : Value).ownBlock) (.slice Ao23 t163.length co23) t163) ∧ Aside0 (Kd.R Kd.bool 4 w' w.heap.size (fun k_ => (w.heap.size ≤ k_)) v167 x8_2) ∧ Aside0 (Kd.N (Kd.slice 3 (Kd.int .i64)) 23 w' w.heap.size (fun k_ => (P1_ k_ ∨ w.heap.size ≤ k_) ∧ some k_ ≠ (v167 : Value).ownBlock) (.slice Ao23 t163.length co23) t163) ∧ Aside0 (Below w.heap.size w w'))
      case atStart => exact ⟨(1), (y166), (0), (by first|rfl|(simp;done)|(simp [*];done)), (by first|rfl|(simp;done)|(simp [*];done)), H', ⟨Nat.le_refl _⟩, ⟨by (with_reducible repeat (first|apply Kd.V_alloc|apply Kd.V_drewN|apply Kd.V_drew));exact Kd.V_mono HO_1.out (fun _ hk => by first|exact ⟨hk.1.1, ⟨hk.1.2, ⟨hk.2, hk.1.2⟩⟩⟩|((repeat' apply And.intro) <;> first|exact hk.1|exact hk.2|exact hk.1.1|exact hk.1.2|exact hk.2.1|exact hk.2.2|exact hk.1.1.1|exact hk.1.1.2|exact hk.1.2.1|exact hk.1.2.2|exact hk.2.1.1|exact hk.2.1.2|exact hk.2.2.1|exact hk.2.2.2|exact hk.2.2.2.1|exact hk.2.2.2.2|exact hk.1.2.2.1|exact hk.1.2.2.2|exact hk.1.2.2.2.1|exact hk.1.2.2.2.2))⟩, ⟨by (with_reducible repeat (first|apply Kd.N_alloc|apply Kd.N_drewN|apply Kd.N_drew));exact HO165.out⟩, ⟨by (with_reducible repeat (first|apply Kd.R_alloc|apply Kd.R_drewN|apply Kd.R_drew));exact Kd.R_mono HO168.out (fun _ hk => hk.1)⟩, ⟨by (with_reducible repeat (first|apply Kd.N_alloc|apply Kd.N_drewN|apply Kd.N_drew));exact HO165.out⟩, ⟨by repeat (first|(with_reducible first|exact HB.out|apply below_alloc|apply pw_below_drewN|apply below_drew1)|exact HB.out)⟩⟩
      case round =>
       clear H'
       try clear c1
       try clear p2
       try clear c4
       try clear c5
       try clear c7
       try clear c16
       try clear c18
       try clear c18b0
       try clear c18b1
       try clear c19
       try clear c19b0
       try clear c19b1
       try clear p2
       obtain ⟨x7_2, x8_2, x42_2, rfl, rfl, HA, HK2, HO_1, HO_6, HO_8, HO_40, HB⟩ := hrel
       cases gk with
      |zero => exact absurd HA.out (by simp [impl_NullVector.l0])
      |succ k2 =>
        have H := HA.out
        clear HA
        simp only [impl_NullVector.l0] at H
        by_cases c24 : x42_2 < (t163.length : Int)
        ·rw [if_pos c24] at H
         have c24b0 : decide (x42_2 < (t163.length : Int)) = true := decide_eq_true c24
         clear c24
         by_cases c25 : 0 ≤ x42_2
         ·rw [if_pos c25] at H
          have c25b0 : decide (0 ≤ x42_2) = true := decide_eq_true c25
          clear c25
          by_cases c26 : x42_2 < (t163.length : Int)
          ·rw [if_pos c26] at H
           have c26b0 : decide (x42_2 < (t163.length : Int)) = true := decide_eq_true c26
           clear c26
           replace H := Option.bind_eq_some_iff.mp H
           obtain ⟨t170, A270, H⟩ := H
           replace H : (if 0 ≤ t170 then (if t170 < (x8_2.length : Int) then (if t170 < ((rd_L1 t163 x42_2).length : Int) then ((impl_gcd.f k2 x7_2 (rd (rd_L1 t163 x42_2) t170)).bind fun t173 => (if t173 = 0 then (none) else (impl_NullVector.l0 k2 l1 (l1.length : Int) t163 (wrap64 ((wrap64 (Int.tdiv x7_2 t173)) * (rd (rd_L1 t163 x42_2) t170))) (x8_2.set (t170 : Int).toNat true) t163 (t163.length : Int) (wrap64 (x42_2 + 1))))) else (none)) else (none)) else (none)) = some r := H
           have A27 := Aside0.mk A270
           clear A270
           by_cases c28 : 0 ≤ t170
           ·rw [if_pos c28] at H
            have c28b0 : decide (0 ≤ t170) = true := decide_eq_true c28
            clear c28
            by_cases c29 : t170 < (x8_2.length : Int)
            ·rw [if_pos c29] at H
             have c29b0 : decide (t170 < (x8_2.length : Int)) = true := decide_eq_true c29
             clear c29
             obtain ⟨y171, hy171⟩ : ∃ y_ : List Bool, y_ = (x8_2.set (t170 : Int).toNat true) := ⟨_, rfl⟩
             replace H : (if t170 < ((rd_L1 t163 x42_2).length : Int) then ((impl_gcd.f k2 x7_2 (rd (rd_L1 t163 x42_2) t170)).bind fun t173 => (if t173 = 0 then (none) else (impl_NullVector.l0 k2 l1 (l1.length : Int) t163 (wrap64 ((wrap64 (Int.tdiv x7_2 t173)) * (rd (rd_L1 t163 x42_2) t170))) y171 t163 (t163.length : Int) (wrap64 (x42_2 + 1))))) else (none)) = some r := by first|(rw [hy171];with_reducible exact H)|(have H2_ := (Option.bind_some _ _).symm.trans H;rw [hy171];with_reducible exact H2_)|(have H2_ := (Option.bind_some _ _).symm.trans H;with_reducible exact H2_)|with_reducible exact H|(rw [hy171];exact H)|exact H
             have Ny171 := Aside0.mk hy171
             clear hy171
             by_cases c31 : t170 < ((rd_L1 t163 x42_2).length : Int)
             ·rw [if_pos c31] at H
              have c31b0 : decide (t170 < ((rd_L1 t163 x42_2).length : Int)) = true := decide_eq_true c31
              clear c31
              replace H := Option.bind_eq_some_iff.mp H
              obtain ⟨t173, A320, H⟩ := H
              replace H : (if t173 = 0 then (none) else (impl_NullVector.l0 k2 l1 (l1.length : Int) t163 (wrap64 ((wrap64 (Int.tdiv x7_2 t173)) * (rd (rd_L1 t163 x42_2) t170))) y171 t163 (t163.length : Int) (wrap64 (x42_2 + 1)))) = some r := H
              have A32 := Aside0.mk A320
              clear A320
              by_cases c33 : t173 = 0
              ·rw [if_pos c33] at H
               exact absurd H (by simp)
              ·rw [if_neg c33] at H
               have c33b0 : (t173 == 0) = false := beq_eq_false_iff_ne.mpr c33
               have c33b1 : (t173 != 0) = true := bne_iff_ne.mpr c33
               have H' := Aside0.mk H
               clear H
               have p169 : 0 ≤ (x42_2 : Int) := of_decide_eq_true (by first|(with_reducible assumption)|assumption)
               have q169 : x42_2 < (t163.length : Int) := of_decide_eq_true (by first|(with_reducible assumption)|assumption)
               obtain ⟨ad169, A169_0, c169_0, e169, hx169_0, hl169_0, hi169_0⟩ := at_L1 (Kd.N_reads' HO_40.out).2.2 x42_2 p169 q169
               cases e169
               obtain ⟨ce169, hce169, hMe169, hcc169⟩ := Kd.N_get HO_40.out [] x42_2 p169 (by first|exact q169|exact of_decide_eq_true (by first|(with_reducible assumption)|assumption)|(have e_ := (Kd.N_reads' HO_40.out).1;omega))
               obtain ⟨ua169_0, uc169_0, rfl, ul169_0, ge169_0⟩ := Kd.FK_slice_open hMe169
               have hv169_0 := hcc169 0 _ rfl
               rw [Nat.add_zero, show ((Kd.slice 3 (Kd.int .i64))).sz = 1 from rfl, Nat.mul_one] at hv169_0
               replace hv169_0 := Option.some.inj (hv169_0.symm.trans hx169_0)
               injection hv169_0 with hva_ hvn_ hvc_
               rw [hva_] at ge169_0
               rw [hvc_] at ul169_0
               have HL169_0 := Aside0.mk (show Kd.V (Kd.int .i64) 3 _ w.heap.size _ _ (rd_L1 t163 x42_2) from Kd.V_mk ul169_0 ge169_0)
               clear hva_ hvn_ hvc_ ge169_0 ul169_0
               clear hcc169 hce169
               have HR169_0 := Aside0.mk hi169_0
               have HC169_0 := Aside0.mk hl169_0
               clear hi169_0 hl169_0
               replace p169 := eq_true p169
               replace q169 := eq_true q169
               try go_wp2_with (first|((with_reducible refine gate_callee (f := 59) rfl ?_);refine goesL_ (some 47) rfl rfl Try.func59 (by kernel_rfl) rfl #[.slice A169_0 (rd_L1 t163 x42_2).length c169_0] rfl (by (try simp only [List.map_toArray, List.map_cons, List.map_nil]);first|done|rfl|(simp only [List.length_drop, List.length_take];rfl)) ?_;(with_reducible refine (impl_lead.calls k2 _ _ (rd_L1 t163 x42_2) t170 _ ?side1 ?side2 A27.out).mono ?_);(case side1 => repeat (first|exact (by repeat (first|(with_reducible exact HR169_0.out)|(with_reducible refine Kd.C_alloc ?_ _)|(with_reducible refine Kd.C_drewN ?_ _)|(with_reducible refine Kd.C_drew ?_)|exact HR169_0.out))|(with_reducible refine Kd.C_alloc ?_ _)|(with_reducible refine Kd.C_drewN ?_ _)|(with_reducible refine Kd.C_drew ?_)));(case side2 => exact HC169_0.out);rintro e w' ⟨rfl, ⟨nd, rfl⟩⟩;refine ⟨_, rfl, ?_⟩;(try (rw [drewN_self wr];generalize hq_ : World.drewN wr _ = wr;have n0_ : Aside0 (Kd.V (Kd.int .i64) 3 wr w.heap.size (fun k_ => (P1_ k_ ∨ w.heap.size ≤ k_) ∧ some k_ ≠ (.slice (some ad169) t163.length co23 : Value).ownBlock ∧ some k_ ≠ (v167 : Value).ownBlock) (.slice A169_0 (rd_L1 t163 x42_2).length c169_0) (rd_L1 t163 x42_2)) := ⟨by rw [← hq_];exact (by (with_reducible repeat (first|apply Kd.V_alloc|apply Kd.V_drewN|apply Kd.V_drew));exact Kd.V_mono HL169_0.out (fun _ hk => by first|exact ⟨hk.1.1, ⟨hk.2, hk.1.2⟩⟩|((repeat' apply And.intro) <;> first|exact hk.1|exact hk.2|exact hk.1.1|exact hk.1.2|exact hk.2.1|exact hk.2.2|exact hk.1.1.1|exact hk.1.1.2|exact hk.1.2.1|exact hk.1.2.2|exact hk.2.1.1|exact hk.2.1.2|exact hk.2.2.1|exact hk.2.2.2|exact hk.2.2.2.1|exact hk.2.2.2.2|exact hk.1.2.2.1|exact hk.1.2.2.2|exact hk.1.2.2.2.1|exact hk.1.2.2.2.2)))⟩;have n1_ : Aside0 (Kd.V (Kd.int .i64) 3 wr w.heap.size (fun k_ => (P1_ k_ ∨ w.heap.size ≤ k_) ∧ some k_ ≠ (.slice (some ad169) t163.length co23 : Value).ownBlock ∧ some k_ ≠ (.slice (some ad169) t163.length co23 : Value).ownBlock ∧ some k_ ≠ (v167 : Value).ownBlock) (.slice A1 l1.length c1) l1) := ⟨by rw [← hq_];exact (by (with_reducible repeat (first|apply Kd.V_alloc|apply Kd.V_drewN|apply Kd.V_drew));exact Kd.V_mono HO_1.out (fun _ hk => by first|exact ⟨hk.1, ⟨hk.2.2.2, ⟨hk.2.1, hk.2.2.1⟩⟩⟩|((repeat' apply And.intro) <;> first|exact hk.1|exact hk.2|exact hk.1.1|exact hk.1.2|exact hk.2.1|exact hk.2.2|exact hk.1.1.1|exact hk.1.1.2|exact hk.1.2.1|exact hk.1.2.2|exact hk.2.1.1|exact hk.2.1.2|exact hk.2.2.1|exact hk.2.2.2|exact hk.2.2.2.1|exact hk.2.2.2.2|exact hk.1.2.2.1|exact hk.1.2.2.2|exact hk.1.2.2.2.1|exact hk.1.2.2.2.2)))⟩;have n2_ : Aside0 (Kd.N (Kd.slice 3 (Kd.int .i64)) 23 wr w.heap.size (fun k_ => (P1_ k_ ∨ w.heap.size ≤ k_) ∧ some k_ ≠ (v167 : Value).ownBlock) (.slice (some ad169) t163.length co23) t163) := ⟨by rw [← hq_];exact (by (with_reducible repeat (first|apply Kd.N_alloc|apply Kd.N_drewN|apply Kd.N_drew));exact HO_40.out)⟩;have n3_ : Aside0 (Kd.N (Kd.slice 3 (Kd.int .i64)) 23 wr w.heap.size (fun k_ => (P1_ k_ ∨ w.heap.size ≤ k_) ∧ some k_ ≠ (v167 : Value).ownBlock) (.slice (some ad169) t163.length co23) t163) := ⟨by rw [← hq_];exact (by (with_reducible repeat (first|apply Kd.N_alloc|apply Kd.N_drewN|apply Kd.N_drew));exact HO_6.out)⟩;have n4_ : Aside0 (Kd.R Kd.bool 4 wr w.heap.size (fun k_ => (w.heap.size ≤ k_)) v167 x8_2) := ⟨by rw [← hq_];exact (by (with_reducible repeat (first|apply Kd.R_alloc|apply Kd.R_drewN|apply Kd.R_drew));exact HO_8.out)⟩;have n5_ : Aside0 (Below w.heap.size w wr) := ⟨by rw [← hq_];exact (by repeat first|(with_reducible first|exact HB.out|apply below_alloc|apply pw_below_drewN|apply below_drew1)|exact HB.out)⟩;have n6_ : Aside0 (Kd.C (Kd.int .i64) wr A169_0 (rd_L1 t163 x42_2).length (rd_L1 t163 x42_2)) := ⟨by rw [← hq_];exact (by repeat (first|(with_reducible exact HR169_0.out)|(with_reducible refine Kd.C_alloc ?_ _)|(with_reducible refine Kd.C_drewN ?_ _)|(with_reducible refine Kd.C_drew ?_)|exact HR169_0.out))⟩;clear HL169_0 HO_1 HO_40 HO_6 HO_8 HB HR169_0 hq_;have HL169_0 := n0_;have HO_1 := n1_;have HO_40 := n2_;have HO_6 := n3_;have HO_8 := n4_;have HB := n5_;have HR169_0 := n6_;clear n0_ n1_ n2_ n3_ n4_ n5_ n6_));have p30 : 0 ≤ (t170 : Int) := of_decide_eq_true (by first|(with_reducible assumption)|assumption);have q30 : (t170 : Int) < ((x8_2.length : Int) : Int) := of_decide_eq_true (by first|(with_reducible assumption)|assumption);obtain ⟨go30, co30, eo30, gb30, gl30, cl30, HG30⟩ := Kd.R_form HO_8.out (by omega);(first|cases eo30|(injection eo30 with ea_ en_ ec_;(first|subst ea_|(injection ea_ with ea_;subst ea_));subst ec_;clear en_));have GB30 := Aside0.mk gb30;have GG30 := Aside0.mk HG30;clear gb30 gl30 HG30;obtain ⟨hx30_0, hf30_0⟩ := Kd.R_celln false HO_8.out (t170 : Int) p30 q30;replace p30 := eq_true p30;replace q30 := eq_true q30;obtain ⟨hy34_, hz34_⟩ := Kd.R_celln false HO_8.out (t170 : Int) (of_decide_eq_true (by first|(with_reducible assumption)|assumption)) (of_decide_eq_true (by first|(with_reducible assumption)|assumption));have HP34 := Kd.R_putg HO_8.out (t170 : Int) true)|((with_reducible refine gate_store (t := 4) (p := 50) rfl ?_);refine store_event (t := 4) (p := 50) (v := ?vo_w35) (w1 := (wr.setCell ⟨go30, (t170 : Int).toNat, none⟩ (.bool true))) ?hg ?ho ?hn ?hr ?_;(case ho => rfl);(case hg => rfl);(case hn => rfl);(case hr => first|(go_simp;done)|(go_simp;rfl));intro w35 hw;have hg : wr.grownBy w35 (some go30) := (by rw [hw];exact HP34.2);have hp_ : Kd.R Kd.bool 4 w35 w.heap.size (fun k_ => (w.heap.size ≤ k_)) (.slice (some ⟨go30, 0, none⟩) x8_2.length co30) y171 := (by rw [hw, Ny171.out];exact HP34.1);clear HP34;have n0_ := Aside0.mk (Kd.V_afterv (v := (.slice (some ⟨go30, 0, none⟩) x8_2.length co30)) (v1 := (.slice (some ⟨go30, 0, none⟩) x8_2.length co30)) (ok := (fun k_ => (P1_ k_ ∨ w.heap.size ≤ k_) ∧ some k_ ≠ (.slice (some ad169) t163.length co23 : Value).ownBlock ∧ some k_ ≠ (.slice (some ad169) t163.length co23 : Value).ownBlock)) (by (with_reducible repeat (first|apply Kd.V_alloc|apply Kd.V_drewN|apply Kd.V_drew));exact Kd.V_mono HO_1.out (fun _ hk => by first|exact ⟨⟨hk.1, ⟨hk.2.1, hk.2.2.2⟩⟩, hk.2.2.1⟩|((repeat' apply And.intro) <;> first|exact hk.1|exact hk.2|exact hk.1.1|exact hk.1.2|exact hk.2.1|exact hk.2.2|exact hk.1.1.1|exact hk.1.1.2|exact hk.1.2.1|exact hk.1.2.2|exact hk.2.1.1|exact hk.2.1.2|exact hk.2.2.1|exact hk.2.2.2|exact hk.2.2.2.1|exact hk.2.2.2.2|exact hk.1.2.2.1|exact hk.1.2.2.2|exact hk.1.2.2.2.1|exact hk.1.2.2.2.2))) hg (.inl rfl));have n1_ := Aside0.mk (Kd.N_afterv (v := (.slice (some ⟨go30, 0, none⟩) x8_2.length co30)) (v1 := (.slice (some ⟨go30, 0, none⟩) x8_2.length co30)) (ok := (fun k_ => (P1_ k_ ∨ w.heap.size ≤ k_))) (by (with_reducible repeat (first|apply Kd.N_alloc|apply Kd.N_drewN|apply Kd.N_drew));exact HO_6.out) hg (.inl rfl));have n2_ := Aside0.mk (hp_);have n3_ := Aside0.mk (Kd.N_afterv (v := (.slice (some ⟨go30, 0, none⟩) x8_2.length co30)) (v1 := (.slice (some ⟨go30, 0, none⟩) x8_2.length co30)) (ok := (fun k_ => (P1_ k_ ∨ w.heap.size ≤ k_))) (by (with_reducible repeat (first|apply Kd.N_alloc|apply Kd.N_drewN|apply Kd.N_drew));exact HO_40.out) hg (.inl rfl));have n4_ := Aside0.mk (Kd.V_afterv (v := (.slice (some ⟨go30, 0, none⟩) x8_2.length co30)) (v1 := (.slice (some ⟨go30, 0, none⟩) x8_2.length co30)) (ok := (fun k_ => (P1_ k_ ∨ w.heap.size ≤ k_) ∧ some k_ ≠ (.slice (some ad169) t163.length co23 : Value).ownBlock)) (by (with_reducible repeat (first|apply Kd.V_alloc|apply Kd.V_drewN|apply Kd.V_drew));exact Kd.V_mono HL169_0.out (fun _ hk => by first|exact ⟨⟨hk.1.1, hk.2⟩, hk.1.2⟩|((repeat' apply And.intro) <;> first|exact hk.1|exact hk.2|exact hk.1.1|exact hk.1.2|exact hk.2.1|exact hk.2.2|exact hk.1.1.1|exact hk.1.1.2|exact hk.1.2.1|exact hk.1.2.2|exact hk.2.1.1|exact hk.2.1.2|exact hk.2.2.1|exact hk.2.2.2|exact hk.2.2.2.1|exact hk.2.2.2.2|exact hk.1.2.2.1|exact hk.1.2.2.2|exact hk.1.2.2.2.1|exact hk.1.2.2.2.2))) hg (.inl rfl));have n5_ := Aside0.mk ((by rw [hw];exact below_set (HB.out) GB30.out : Below w.heap.size w w35));clear HO_1;clear HO_6;clear HO_8;clear HO_40;clear HL169_0;clear HB;have HO_1 := n0_;have HO_6 := n1_;have HO_8 := n2_;have HO_40 := n3_;have HL169_0 := n4_;have HB := n5_;clear n0_ n1_ n2_ n3_ n4_ n5_;clear hg hw hp_))
               have n0_ := Aside0.mk (Kd.V_drew HO_1.out)
               have n1_ := Aside0.mk (Kd.N_drew HO_6.out)
               have n2_ := Aside0.mk (Kd.R_drew HO_8.out)
               have n3_ := Aside0.mk (Kd.N_drew HO_40.out)
               have n4_ := Aside0.mk (Kd.V_drew HL169_0.out)
               have n5_ := Aside0.mk (below_drew1 HB.out)
               clear HO_1
               clear HO_6
               clear HO_8
               clear HO_40
               clear HL169_0
               clear HB
               have HO_1 := n0_
               have HO_6 := n1_
               have HO_8 := n2_
               have HO_40 := n3_
               have HL169_0 := n4_
               have HB := n5_
               clear n0_ n1_ n2_ n3_ n4_ n5_
               have p172 : 0 ≤ (t170 : Int) := of_decide_eq_true (by first|(with_reducible assumption)|assumption)
               have q172 : t170 < ((rd_L1 t163 x42_2).length : Int) := of_decide_eq_true (by first|(with_reducible assumption)|assumption)
               obtain ⟨ad172, e172, hx172_0⟩ := Kd.at_int (by repeat (first|(with_reducible exact (Kd.V_reads' HL169_0.out).2.2)|(with_reducible refine Kd.C_alloc ?_ _)|(with_reducible refine Kd.C_drewN ?_ _)|(with_reducible refine Kd.C_drew ?_)|exact (Kd.V_reads' HL169_0.out).2.2)) t170 p172 q172
               cases e172
               replace p172 := eq_true p172
               replace q172 := eq_true q172
               have p174 : 0 ≤ (t170 : Int) := of_decide_eq_true (by first|(with_reducible assumption)|assumption)
               have q174 : t170 < ((rd_L1 t163 x42_2).length : Int) := of_decide_eq_true (by first|(with_reducible assumption)|assumption)
               obtain ⟨ad174, e174, hx174_0⟩ := Kd.at_int (by repeat (first|(with_reducible exact (Kd.V_reads' HL169_0.out).2.2)|(with_reducible refine Kd.C_alloc ?_ _)|(with_reducible refine Kd.C_drewN ?_ _)|(with_reducible refine Kd.C_drew ?_)|exact (Kd.V_reads' HL169_0.out).2.2)) t170 p174 q174
               obtain rfl : ad172 = ad174 := (by injection e174)
               replace p174 := eq_true p174
               replace q174 := eq_true q174
               refine start_ (n := 14) (S := fun w' => w'.cell? (ad172.add (t170).toNat) = some (.int .i64 (rd (rd_L1 t163 x42_2) t170)) ∧ w'.cell? (ad172.add (t170).toNat) = some (.int .i64 (rd (rd_L1 t163 x42_2) t170))) (ds := []) #[false, false, false, false, false, false, false, false, false, false, false, false, false, false] (by kernel_rfl) rfl rfl ⟨hx172_0, hx174_0⟩ (fun hHeld => ?_);refine with_tabW impl_NullVector.tab12 impl_NullVector.bits12 (fun HT_ HW_ => ?_)
               generalize w35.drew = w36 at HO_1 HO_6 HO_8 HO_40 HL169_0 HB hx172_0 hx174_0 hHeld ⊢
               refine pure_ (i := 0) (N := some 51) (v := ?_) (a' := ?_) #[true, false, false, false, false, false, false, false, false, false, false, false, false, false] rfl rfl (any_of HT_.out (by kernel_rfl)) (fun _ _ _ h => h) (Or.inl ⟨by rfl, ?_⟩) ?_ ?_
               rotate_left
               ·intro w'
                go_simp
                with_reducible rfl
               rotate_left
               ·simp only [Act.put, List.setIfInBounds_toArray, List.set_cons_zero, List.set_cons_succ, i64_w, i32_w]
                rfl
               refine pure_ (i := 1) (N := some 52) (v := ?_) (a' := ?_) #[true, true, false, false, false, false, false, false, false, false, false, false, false, false] rfl rfl (any_of HT_.out (by kernel_rfl)) (fun _ _ _ h => h) (Or.inl ⟨by rfl, ?_⟩) ?_ ?_
               rotate_left
               ·intro w'
                go_simp
                with_reducible rfl
               rotate_left
               ·simp only [Act.put, List.setIfInBounds_toArray, List.set_cons_zero, List.set_cons_succ, i64_w, i32_w]
                rfl
               refine pure_ (i := 2) (N := some 53) (v := ?_) (a' := ?_) #[true, true, true, false, false, false, false, false, false, false, false, false, false, false] rfl rfl (any_of HT_.out (by kernel_rfl)) (fun _ _ _ h => h) (Or.inl ⟨by rfl, ?_⟩) ?_ ?_
               rotate_left
               ·intro w'
                go_simp
                with_reducible rfl
               rotate_left
               ·simp only [Act.put, List.setIfInBounds_toArray, List.set_cons_zero, List.set_cons_succ, i64_w, i32_w]
                rfl
               refine pure_ (i := 3) (N := some 54) (v := ?_) (a' := ?_) #[true, true, true, true, false, false, false, false, false, false, false, false, false, false] rfl rfl (any_of HT_.out (by kernel_rfl)) (fun _ _ _ h => h) (Or.inl ⟨by rfl, ?_⟩) ?_ ?_
               rotate_left
               ·intro w'
                go_simp
                with_reducible rfl
               rotate_left
               ·simp only [Act.put, List.setIfInBounds_toArray, List.set_cons_zero, List.set_cons_succ, i64_w, i32_w]
                rfl
               refine pure_ (i := 4) (N := some 55) (v := ?_) (a' := ?_) #[true, true, true, true, true, false, false, false, false, false, false, false, false, false] rfl rfl (any_of HT_.out (by kernel_rfl)) (fun _ _ _ h => h) (Or.inl ⟨by rfl, ?_⟩) ?_ ?_
               rotate_left
               ·intro w'
                go_simp
                with_reducible rfl
               rotate_left
               ·simp only [Act.put, List.setIfInBounds_toArray, List.set_cons_zero, List.set_cons_succ, i64_w, i32_w]
                rfl
               refine pure_ (i := 8) (N := some 59) (v := ?_) (a' := ?_) #[true, true, true, true, true, false, false, false, true, false, false, false, false, false] rfl rfl (any_of HT_.out (by kernel_rfl)) (fun _ _ _ h => h) (Or.inl ⟨by rfl, ?_⟩) ?_ ?_
               rotate_left
               ·intro w'
                go_simp
                with_reducible rfl
               rotate_left
               ·simp only [Act.put, List.setIfInBounds_toArray, List.set_cons_zero, List.set_cons_succ, i64_w, i32_w]
                rfl
               refine pure_ (i := 9) (N := some 60) (v := ?_) (a' := ?_) #[true, true, true, true, true, false, false, false, true, true, false, false, false, false] rfl rfl (any_of HT_.out (by kernel_rfl)) (fun _ _ _ h => h) (Or.inl ⟨by rfl, ?_⟩) ?_ ?_
               rotate_left
               ·intro w'
                go_simp
                with_reducible rfl
               rotate_left
               ·simp only [Act.put, List.setIfInBounds_toArray, List.set_cons_zero, List.set_cons_succ, i64_w, i32_w]
                rfl
               refine pure_ (i := 10) (N := some 61) (v := ?_) (a' := ?_) #[true, true, true, true, true, false, false, false, true, true, true, false, false, false] rfl rfl (any_of HT_.out (by kernel_rfl)) (fun _ _ _ h => h) (Or.inl ⟨by rfl, ?_⟩) ?_ ?_
               rotate_left
               ·intro w'
                go_simp
                with_reducible rfl
               rotate_left
               ·simp only [Act.put, List.setIfInBounds_toArray, List.set_cons_zero, List.set_cons_succ, i64_w, i32_w]
                rfl
               refine take_ (i := 5) (N := some 56) (v := ?_) (a' := ?_) #[true, true, true, true, true, true, false, false, true, true, true, false, false, false] rfl rfl (take_ofW HT_.out HW_.out (by kernel_rfl)) (fun _ _ _ h => h) (Or.inl ⟨by rfl, ?_⟩) hHeld ?_ ?_
               rotate_left
               ·rintro w' ⟨s0, s1⟩
                go_simp
                with_reducible rfl
               rotate_left
               ·simp only [Act.put, List.setIfInBounds_toArray, List.set_cons_zero, List.set_cons_succ, i64_w, i32_w]
                rfl
               refine take_ (i := 11) (N := some 62) (v := ?_) (a' := ?_) #[true, true, true, true, true, true, false, false, true, true, true, true, false, false] rfl rfl (take_ofW HT_.out HW_.out (by kernel_rfl)) (fun _ _ _ h => h) (Or.inl ⟨by rfl, ?_⟩) hHeld ?_ ?_
               rotate_left
               ·rintro w' ⟨s0, s1⟩
                go_simp
                with_reducible rfl
               rotate_left
               ·simp only [Act.put, List.setIfInBounds_toArray, List.set_cons_zero, List.set_cons_succ, i64_w, i32_w]
                rfl
               refine one_ (i := 6) (N := some 57) #[true, true, true, true, true, true, true, false, true, true, true, true, false, false] rfl rfl (one_of HT_.out (by kernel_rfl)) (by decide) (fun K hK => ?_)
               refine goes_ Try.func60 (by kernel_rfl) rfl #[.int .i64 x7_2, .int .i64 (rd (rd_L1 t163 x42_2) t170)] (by rfl) rfl rfl (by (try simp only [List.map_toArray, List.map_cons, List.map_nil]);first|done|rfl|(simp only [List.length_drop, List.length_take];rfl)) ?_
               with_reducible refine (impl_gcd.calls k2 x7_2 (rd (rd_L1 t163 x42_2) t170) t173 _ A32.out).mono ?_
               rintro e w' ⟨rfl, ⟨nd, rfl⟩⟩
               refine ⟨_, rfl, ?_⟩
               refine hK.out _ _ ⟨hHeld.1, hHeld.2⟩ (fun hHeld => ?_)
               clear hK K
               refine norm_ (a' := ?_) ?_ ?_
               rotate_left
               ·show Act.put _ (some 57) _ = _
                simp only [Act.put, List.setIfInBounds_toArray, List.set_cons_zero, List.set_cons_succ, i64_w, i32_w]
                rfl
               refine pure_ (i := 7) (N := some 58) (v := ?_) (a' := ?_) #[true, true, true, true, true, true, true, true, true, true, true, true, false, false] rfl rfl (any_of HT_.out (by kernel_rfl)) (fun _ _ _ h => h) (Or.inl ⟨by rfl, ?_⟩) ?_ ?_
               rotate_left
               ·intro w'
                go_simp
                with_reducible rfl
               rotate_left
               ·simp only [Act.put, List.setIfInBounds_toArray, List.set_cons_zero, List.set_cons_succ, i64_w, i32_w]
                rfl
               refine pure_ (i := 12) (N := some 63) (v := ?_) (a' := ?_) #[true, true, true, true, true, true, true, true, true, true, true, true, true, false] rfl rfl (any_of HT_.out (by kernel_rfl)) (fun _ _ _ h => h) (Or.inl ⟨by rfl, ?_⟩) ?_ ?_
               rotate_left
               ·intro w'
                go_simp
                with_reducible rfl
               rotate_left
               ·simp only [Act.put, List.setIfInBounds_toArray, List.set_cons_zero, List.set_cons_succ, i64_w, i32_w]
                rfl
               refine pure_ (i := 13) (N := some 7) (v := ?_) (a' := ?_) #[true, true, true, true, true, true, true, true, true, true, true, true, true, true] rfl rfl (any_of HT_.out (by kernel_rfl)) (fun _ _ _ h => h) (Or.inl ⟨by rfl, ?_⟩) ?_ ?_
               rotate_left
               ·intro w'
                go_simp
                with_reducible rfl
               rotate_left
               ·simp only [Act.put, List.setIfInBounds_toArray, List.set_cons_zero, List.set_cons_succ, i64_w, i32_w]
                rfl
               refine done_ (done_of HT_.out (by kernel_rfl)) ?_
               try go_wp2
               go_roundg k2
               case measure => have := HJ2.out;have := HK2.out;omega
               case rel => exact ⟨(wrap64 ((wrap64 (Int.tdiv x7_2 t173)) * (rd (rd_L1 t163 x42_2) t170))), (y171), (wrap64 (x42_2 + 1)), (by first|rfl|(simp;done)|(simp [*];done)), (by first|rfl|(simp;done)|(simp [*];done)), H', ⟨by have := HJ2.out;have := HK2.out;omega⟩, ⟨by (with_reducible repeat (first|apply Kd.V_alloc|apply Kd.V_drewN|apply Kd.V_drew));exact Kd.V_mono HO_1.out (fun _ hk => by first|exact ⟨hk.1.1, ⟨hk.1.2.1, ⟨hk.2, hk.1.2.2⟩⟩⟩|((repeat' apply And.intro) <;> first|exact hk.1|exact hk.2|exact hk.1.1|exact hk.1.2|exact hk.2.1|exact hk.2.2|exact hk.1.1.1|exact hk.1.1.2|exact hk.1.2.1|exact hk.1.2.2|exact hk.2.1.1|exact hk.2.1.2|exact hk.2.2.1|exact hk.2.2.2|exact hk.2.2.2.1|exact hk.2.2.2.2|exact hk.1.2.2.1|exact hk.1.2.2.2|exact hk.1.2.2.2.1|exact hk.1.2.2.2.2))⟩, ⟨by (with_reducible repeat (first|apply Kd.N_alloc|apply Kd.N_drewN|apply Kd.N_drew));exact HO_6.out⟩, ⟨by (with_reducible repeat (first|apply Kd.R_alloc|apply Kd.R_drewN|apply Kd.R_drew));exact HO_8.out⟩, ⟨by (with_reducible repeat (first|apply Kd.N_alloc|apply Kd.N_drewN|apply Kd.N_drew));exact HO_40.out⟩, ⟨by repeat (first|(with_reducible first|exact HB.out|apply below_alloc|apply pw_below_drewN|apply below_drew1)|exact HB.out)⟩⟩
             ·rw [if_neg c31] at H
              exact absurd H (by simp)
            ·rw [if_neg c29] at H
             exact absurd H (by simp)
           ·rw [if_neg c28] at H
            exact absurd H (by simp)
          ·rw [if_neg c26] at H
           exact absurd H (by simp)
         ·rw [if_neg c25] at H
          exact absurd H (by simp)
        ·rw [if_neg c24] at H
         have c24b0 : decide (x42_2 < (t163.length : Int)) = false := decide_eq_false c24
         clear c24
         have H' := Aside0.mk H
         clear H
         go_wp2
         go_loopg [66] k2 (fun kq v66 w' => ∃ (x1_3 : List Int) (x66_3 : Int), v66 = .int .i64 x66_3 ∧ Aside0 (impl_NullVector.l1 kq x1_3 (l1.length : Int) t163 x7_2 x8_2 (l1.length : Int) x66_3 = some r) ∧ Aside0 (kq ≤ k2) ∧ Aside0 (Kd.V (Kd.int .i64) 3 w' w.heap.size (fun k_ => (P1_ k_ ∨ w.heap.size ≤ k_) ∧ some k_ ≠ ((.slice Ao23 t163.length co23) : Value).ownBlock ∧ some k_ ≠ (v167 : Value).ownBlock) (.slice A1 l1.length c1) x1_3) ∧ Aside0 (Kd.N (Kd.slice 3 (Kd.int .i64)) 23 w' w.heap.size (fun k_ => (P1_ k_ ∨ w.heap.size ≤ k_) ∧ some k_ ≠ (v167 : Value).ownBlock) (.slice Ao23 t163.length co23) t163) ∧ Aside0 (Kd.R Kd.bool 4 w' w.heap.size (fun k_ => (w.heap.size ≤ k_)) v167 x8_2) ∧ Aside0 (Below w.heap.size w w'))
         case atStart => exact ⟨(l1), (0), (by first|rfl|(simp;done)|(simp [*];done)), H', ⟨Nat.le_refl _⟩, ⟨by (with_reducible repeat (first|apply Kd.V_alloc|apply Kd.V_drewN|apply Kd.V_drew));exact Kd.V_mono HO_1.out (fun _ hk => by first|exact ⟨hk.1, ⟨hk.2.1, hk.2.2.1⟩⟩|((repeat' apply And.intro) <;> first|exact hk.1|exact hk.2|exact hk.1.1|exact hk.1.2|exact hk.2.1|exact hk.2.2|exact hk.1.1.1|exact hk.1.1.2|exact hk.1.2.1|exact hk.1.2.2|exact hk.2.1.1|exact hk.2.1.2|exact hk.2.2.1|exact hk.2.2.2|exact hk.2.2.2.1|exact hk.2.2.2.2|exact hk.1.2.2.1|exact hk.1.2.2.2|exact hk.1.2.2.2.1|exact hk.1.2.2.2.2))⟩, ⟨by (with_reducible repeat (first|apply Kd.N_alloc|apply Kd.N_drewN|apply Kd.N_drew));exact HO_6.out⟩, ⟨by (with_reducible repeat (first|apply Kd.R_alloc|apply Kd.R_drewN|apply Kd.R_drew));exact HO_8.out⟩, ⟨by repeat (first|(with_reducible first|exact HB.out|apply below_alloc|apply pw_below_drewN|apply below_drew1)|exact HB.out)⟩⟩
         case round =>
          clear H'
          try clear c1
          try clear p1
          try clear q1
          try clear hx1
          try clear c2
          try clear p2
          try clear c3
          try clear p3
          try clear q3
          try clear hx3
          try clear hf3
          try clear c4
          try clear c5
          try clear c6
          try clear p6
          try clear c7
          try clear c16
          try clear p16
          try clear q16
          try clear hx16
          try clear p17
          try clear q17
          try clear hx17
          try clear c18
          try clear c18b0
          try clear c18b1
          try clear c19
          try clear c19b0
          try clear c19b1
          try clear c24
          try clear c24b0
          try clear c25
          try clear c25b0
          try clear c26
          try clear c26b0
          try clear c28
          try clear c28b0
          try clear c29
          try clear c29b0
          try clear p30
          try clear q30
          try clear hx30
          try clear hf30
          try clear c31
          try clear c31b0
          try clear c33
          try clear c33b0
          try clear c33b1
          try clear hx169_0
          try clear hx172_0
          try clear hx174_0
          try clear hx30_0
          try clear p169
          try clear p172
          try clear p174
          try clear p2
          try clear p30
          try clear q169
          try clear q172
          try clear q174
          try clear q30
          obtain ⟨x1_3, x66_3, rfl, HA, HK3, HO_1, HO_6, HO_8, HB⟩ := hrel
          have hl1_3 := (Kd.V_reads' HO_1.out).1
          rw [hl1_3] at HO_1
          (try simp only [hl1_3])
          (try simp only [hl1_3] at HO_6)
          (try simp only [hl1_3] at HO_8)
          cases gk with
         |zero => exact absurd HA.out (by simp [impl_NullVector.l1])
         |succ k3 =>
           have H := HA.out
           clear HA
           simp only [impl_NullVector.l1] at H
           by_cases c37 : x66_3 < (l1.length : Int)
           ·rw [if_pos c37] at H
            have c37b0 : decide (x66_3 < (l1.length : Int)) = true := decide_eq_true c37
            have c37b1 : decide (x66_3 < (x1_3.length : Int)) = true := by rw [show (x1_3.length : Int) = (l1.length : Int) by omega];exact c37b0
            clear c37
            by_cases c38 : 0 ≤ x66_3
            ·rw [if_pos c38] at H
             have c38b0 : decide (0 ≤ x66_3) = true := decide_eq_true c38
             clear c38
             by_cases c39 : x66_3 < (x8_2.length : Int)
             ·rw [if_pos c39] at H
              have c39b0 : decide (x66_3 < (x8_2.length : Int)) = true := decide_eq_true c39
              clear c39
              obtain ⟨bq40, hbq40⟩ : ∃ b_ : Bool, b_ = (rdOf false x8_2 x66_3) := ⟨_, rfl⟩
              replace H : (if bq40 = true then (impl_NullVector.l1 k3 x1_3 (l1.length : Int) t163 x7_2 x8_2 (l1.length : Int) (wrap64 (x66_3 + 1))) else (if 0 ≤ (l1.length : Int) then (if ((l1.length : Int) : Int).toNat ≤ 35184372088832 then ((some (List.replicate ((l1.length : Int) : Int).toNat 0 : List Int)).bind fun y176 => (if x66_3 < (y176.length : Int) then (impl_NullVector.l2 k3 x1_3 (l1.length : Int) t163 x7_2 x8_2 x66_3 (y176.set (x66_3 : Int).toNat x7_2) (l1.length : Int) x66_3 t163 (t163.length : Int) 0) else (none))) else (none)) else (none))) = some r := by rw [← hbq40] at H;exact H
              have Nbq40 := Aside0.mk hbq40
              clear hbq40
              by_cases c41 : bq40 = true
              ·subst c41
               have H1 : (impl_NullVector.l1 k3 x1_3 (l1.length : Int) t163 x7_2 x8_2 (l1.length : Int) (wrap64 (x66_3 + 1))) = some r := by rw [if_pos rfl] at H;exact H
               clear H
               have H := H1
               clear H1
               have H' := Aside0.mk H
               clear H
               obtain ⟨Ao42, co42, eo42⟩ := Kd.R_slice HO_8.out
               subst eo42
               have p175 : 0 ≤ (x66_3 : Int) := of_decide_eq_true (by first|(with_reducible assumption)|assumption)
               have q175 : x66_3 < (x8_2.length : Int) := of_decide_eq_true (by first|(with_reducible assumption)|assumption)
               obtain ⟨ad175, e175, hx175_0⟩ := Kd.at_bool (Kd.R_reads' HO_8.out).2.2 x66_3 p175 q175
               (try rw [← Nbq40.out] at hx175_0)
               cases e175
               replace p175 := eq_true p175
               replace q175 := eq_true q175
               go_wp2
               (try simp only [← hl1_3])
               go_roundg k3
               case measure => have := HJ2.out;have := HK2.out;have := HK3.out;omega
               case rel => exact ⟨(x1_3), (wrap64 (x66_3 + 1)), (by first|rfl|(simp;done)|(simp [*];done)), H', ⟨by have := HJ2.out;have := HK2.out;have := HK3.out;omega⟩, ⟨by (try simp only [hl1_3]);(with_reducible repeat (first|apply Kd.V_alloc|apply Kd.V_drewN|apply Kd.V_drew));exact HO_1.out⟩, ⟨by (try simp only [hl1_3]);(with_reducible repeat (first|apply Kd.N_alloc|apply Kd.N_drewN|apply Kd.N_drew));exact HO_6.out⟩, ⟨by (try simp only [hl1_3]);(with_reducible repeat (first|apply Kd.R_alloc|apply Kd.R_drewN|apply Kd.R_drew));exact HO_8.out⟩, ⟨by repeat (first|(with_reducible first|exact HB.out|apply below_alloc|apply pw_below_drewN|apply below_drew1)|exact HB.out)⟩⟩
              ·replace c41 := Bool.eq_false_iff.mpr c41
               subst c41
               have H1 : (if 0 ≤ (l1.length : Int) then (if ((l1.length : Int) : Int).toNat ≤ 35184372088832 then ((some (List.replicate ((l1.length : Int) : Int).toNat 0 : List Int)).bind fun y176 => (if x66_3 < (y176.length : Int) then (impl_NullVector.l2 k3 x1_3 (l1.length : Int) t163 x7_2 x8_2 x66_3 (y176.set (x66_3 : Int).toNat x7_2) (l1.length : Int) x66_3 t163 (t163.length : Int) 0) else (none))) else (none)) else (none)) = some r := by rw [if_neg (show ¬ (false = true) by decide)] at H;exact H
               clear H
               have H := H1
               clear H1
               by_cases c43 : 0 ≤ (l1.length : Int)
               ·rw [if_pos c43] at H
                have c43b0 := eq_true c43
                have c43b1 : decide (0 ≤ (l1.length : Int)) = true := decide_eq_true c43
                clear c43
                by_cases c44 : ((l1.length : Int) : Int).toNat ≤ 35184372088832
                ·rw [if_pos c44] at H
                 have c44b0 := eq_true c44
                 have c44b1 : decide (((l1.length : Int) : Int).toNat ≤ 35184372088832) = true := decide_eq_true c44
                 clear c44
                 obtain ⟨y176, hy176⟩ : ∃ y_ : List Int, y_ = (List.replicate ((l1.length : Int) : Int).toNat 0) := ⟨_, rfl⟩
                 replace H : (if x66_3 < (y176.length : Int) then (impl_NullVector.l2 k3 x1_3 (l1.length : Int) t163 x7_2 x8_2 x66_3 (y176.set (x66_3 : Int).toNat x7_2) (l1.length : Int) x66_3 t163 (t163.length : Int) 0) else (none)) = some r := by first|(rw [hy176];with_reducible exact H)|(have H2_ := (Option.bind_some _ _).symm.trans H;rw [hy176];with_reducible exact H2_)|(have H2_ := (Option.bind_some _ _).symm.trans H;with_reducible exact H2_)|with_reducible exact H|(rw [hy176];exact H)|exact H
                 have Ny176 := Aside0.mk hy176
                 clear hy176
                 by_cases c45 : x66_3 < (y176.length : Int)
                 ·rw [if_pos c45] at H
                  have c45b0 : decide (x66_3 < (y176.length : Int)) = true := decide_eq_true c45
                  clear c45
                  obtain ⟨y179, hy179⟩ : ∃ y_ : List Int, y_ = (y176.set (x66_3 : Int).toNat x7_2) := ⟨_, rfl⟩
                  replace H : (impl_NullVector.l2 k3 x1_3 (l1.length : Int) t163 x7_2 x8_2 x66_3 y179 (l1.length : Int) x66_3 t163 (t163.length : Int) 0) = some r := by first|(rw [hy179];with_reducible exact H)|(have H2_ := (Option.bind_some _ _).symm.trans H;rw [hy179];with_reducible exact H2_)|(have H2_ := (Option.bind_some _ _).symm.trans H;with_reducible exact H2_)|with_reducible exact H|(rw [hy179];exact H)|exact H
                  have Ny179 := Aside0.mk hy179
                  clear hy179
                  have H' := Aside0.mk H
                  clear H
                  obtain ⟨Ao47, co47, eo47⟩ := Kd.R_slice HO_8.out
                  subst eo47
                  have p175 : 0 ≤ (x66_3 : Int) := of_decide_eq_true (by first|(with_reducible assumption)|assumption)
                  have q175 : x66_3 < (x8_2.length : Int) := of_decide_eq_true (by first|(with_reducible assumption)|assumption)
                  obtain ⟨ad175, e175, hx175_0⟩ := Kd.at_bool (Kd.R_reads' HO_8.out).2.2 x66_3 p175 q175
                  (try rw [← Nbq40.out] at hx175_0)
                  cases e175
                  replace p175 := eq_true p175
                  replace q175 := eq_true q175
                  (try simp only [← hl1_3])
                  go_wp2_with (first|((with_reducible refine gate_dst (N := 74) rfl ?_);(try (refine gate_guard (by rfl) ?_;dsimp only));refine Kd.R_make (Kd.int .i64) _ 3 rfl (N := 74) rfl 23 _ _ rfl (l1.length : Int) rfl rfl Try.underlying23 (.int .i64 0) 8 info3 rfl (by decide) (by omega) 0 (ok := fun _ => True) (okp := fun _ => True) rfl (fun _ hk => hk) trivial (of_decide_eq_true (by first|(with_reducible assumption)|assumption)) (Nat.le_trans (Nat.mul_le_mul_right _ (of_decide_eq_true (by first|(with_reducible assumption)|assumption) : (l1.length : Int).toNat ≤ 35184372088832)) (by omega)) (Below.refl _ _) (Nat.le_refl _) ?_;intro v177 w48 ho49 hb hg_ hnew_;clear hg_ hnew_;(first|rw [← Ny176.out] at ho49|(simp only [Int.reduceToNat] at ho49;rw [← Ny176.out] at ho49));have n0_ := Aside0.mk (Kd.V_elder' (by (with_reducible repeat (first|apply Kd.V_alloc|apply Kd.V_drewN|apply Kd.V_drew));exact HO_1.out) (Kd.R_base ho49) hb);have n1_ := Aside0.mk (Kd.N_elder' (by (with_reducible repeat (first|apply Kd.N_alloc|apply Kd.N_drewN|apply Kd.N_drew));exact HO_6.out) (Kd.R_base ho49) hb);have n2_ := Aside0.mk (Kd.R_below (by (with_reducible repeat (first|apply Kd.R_alloc|apply Kd.R_drewN|apply Kd.R_drew));exact HO_8.out) hb);have n3_ := Aside0.mk (Kd.R_lower (Kd.R_newM (M := fun k_ => (w.heap.size ≤ k_)) ho49 (below_size (by repeat first|(with_reducible first|exact HB.out|apply below_alloc|apply pw_below_drewN|apply below_drew1)|exact HB.out)) (fun k_ h_ => h_)) (below_size (by repeat first|(with_reducible first|exact HB.out|apply below_alloc|apply pw_below_drewN|apply below_drew1)|exact HB.out)));have n4_ := Aside0.mk (below_step (by repeat first|(with_reducible first|exact HB.out|apply below_alloc|apply pw_below_drewN|apply below_drew1)|exact HB.out) hb);clear HO_1;clear HO_6;clear HO_8;clear HB;have HO_1 := n0_;have HO_6 := n1_;have HO_8 := n2_;have HO178 := n3_;have HB := n4_;clear n0_ n1_ n2_ n3_ n4_;clear hb ho49;have p46 : 0 ≤ (x66_3 : Int) := of_decide_eq_true (by first|(with_reducible assumption)|assumption);have q46 : (x66_3 : Int) < ((y176.length : Int) : Int) := of_decide_eq_true (by first|(with_reducible assumption)|assumption);obtain ⟨go46, co46, eo46, gb46, gl46, cl46, HG46⟩ := Kd.R_form HO178.out (by omega);(first|cases eo46|(injection eo46 with ea_ en_ ec_;(first|subst ea_|(injection ea_ with ea_;subst ea_));subst ec_;clear en_));have GB46 := Aside0.mk gb46;have GG46 := Aside0.mk HG46;clear gb46 gl46 HG46;obtain ⟨hx46_0, hf46_0⟩ := Kd.R_celln 0 HO178.out (x66_3 : Int) p46 q46;replace p46 := eq_true p46;replace q46 := eq_true q46;have n_ := Aside0.mk (Kd.R_mono (ok' := (fun k_ => (w.heap.size ≤ k_))) HO178.out (fun k_ hk => hk.1));clear HO178;have HO178 := n_;clear n_;obtain ⟨hy50_, hz50_⟩ := Kd.R_celln 0 HO178.out (x66_3 : Int) (of_decide_eq_true (by first|(with_reducible assumption)|assumption)) (of_decide_eq_true (by first|(with_reducible assumption)|assumption));have HP50 := Kd.R_putg HO178.out (x66_3 : Int) x7_2)|((with_reducible refine gate_store (t := 3) (p := 78) rfl ?_);refine store_event (t := 3) (p := 78) (v := ?vo_w51) (w1 := (w48.setCell ⟨go46, (x66_3 : Int).toNat, none⟩ (.int .i64 x7_2))) ?hg ?ho ?hn ?hr ?_;(case ho => rfl);(case hg => rfl);(case hn => rfl);(case hr => first|(go_simp;done)|(go_simp;rfl));intro w51 hw;have hg : w48.grownBy w51 (some go46) := (by rw [hw];exact HP50.2);have hp_ : Kd.R (Kd.int .i64) 3 w51 w.heap.size (fun k_ => (w.heap.size ≤ k_)) (.slice (some ⟨go46, 0, none⟩) y176.length co46) y179 := (by rw [hw, Ny179.out];exact HP50.1);clear HP50;have n0_ := Aside0.mk (Kd.V_afterv (v := (.slice (some ⟨go46, 0, none⟩) y176.length co46)) (v1 := (.slice (some ⟨go46, 0, none⟩) y176.length co46)) (ok := (fun k_ => (P1_ k_ ∨ w.heap.size ≤ k_) ∧ some k_ ≠ (.slice Ao23 t163.length co23 : Value).ownBlock ∧ some k_ ≠ (.slice (some ad175) x8_2.length co47 : Value).ownBlock)) (by (with_reducible repeat (first|apply Kd.V_alloc|apply Kd.V_drewN|apply Kd.V_drew));exact HO_1.out) hg (.inl rfl));have n1_ := Aside0.mk (Kd.N_afterv (v := (.slice (some ⟨go46, 0, none⟩) y176.length co46)) (v1 := (.slice (some ⟨go46, 0, none⟩) y176.length co46)) (ok := (fun k_ => (P1_ k_ ∨ w.heap.size ≤ k_) ∧ some k_ ≠ (.slice (some ad175) x8_2.length co47 : Value).ownBlock)) (by (with_reducible repeat (first|apply Kd.N_alloc|apply Kd.N_drewN|apply Kd.N_drew));exact HO_6.out) hg (.inl rfl));have n2_ := Aside0.mk (Kd.R_over' (v := (.slice (some ⟨go46, 0, none⟩) y176.length co46)) (by (with_reducible repeat (first|apply Kd.R_alloc|apply Kd.R_drewN|apply Kd.R_drew));exact HO_8.out) (Kd.R_typed HO178.out) (by decide) hg);have n3_ := Aside0.mk (hp_);have n4_ := Aside0.mk ((by rw [hw];exact below_set (HB.out) GB46.out : Below w.heap.size w w51));clear HO_1;clear HO_6;clear HO_8;clear HO178;clear HB;have HO_1 := n0_;have HO_6 := n1_;have HO_8 := n2_;have HO178 := n3_;have HB := n4_;clear n0_ n1_ n2_ n3_ n4_;clear hg hw hp_))
                  (try simp only [hl1_3])
                  go_loopg [81] k3 (fun kq v81 w' => ∃ (x13_4 : List Int) (x81_4 : Int), v81 = .int .i64 x81_4 ∧ Aside0 (impl_NullVector.l2 kq x1_3 (l1.length : Int) t163 x7_2 x8_2 x66_3 x13_4 (l1.length : Int) x66_3 t163 (t163.length : Int) x81_4 = some r) ∧ Aside0 (kq ≤ k3) ∧ Aside0 (Kd.V (Kd.int .i64) 3 w' w.heap.size (fun k_ => (P1_ k_ ∨ w.heap.size ≤ k_) ∧ some k_ ≠ ((.slice Ao23 t163.length co23) : Value).ownBlock ∧ some k_ ≠ ((.slice (some ad175) x8_2.length co47) : Value).ownBlock ∧ some k_ ≠ ((.slice (some ⟨go46, 0, none⟩) y176.length co46) : Value).ownBlock ∧ some k_ ≠ ((.slice Ao23 t163.length co23) : Value).ownBlock) (.slice A1 x1_3.length c1) x1_3) ∧ Aside0 (Kd.N (Kd.slice 3 (Kd.int .i64)) 23 w' w.heap.size (fun k_ => (P1_ k_ ∨ w.heap.size ≤ k_) ∧ some k_ ≠ ((.slice (some ad175) x8_2.length co47) : Value).ownBlock ∧ some k_ ≠ ((.slice (some ⟨go46, 0, none⟩) y176.length co46) : Value).ownBlock) (.slice Ao23 t163.length co23) t163) ∧ Aside0 (Kd.R Kd.bool 4 w' w.heap.size (fun k_ => (w.heap.size ≤ k_)) (.slice (some ad175) x8_2.length co47) x8_2) ∧ Aside0 (Kd.R (Kd.int .i64) 3 w' w.heap.size (fun k_ => (w.heap.size ≤ k_)) (.slice (some ⟨go46, 0, none⟩) y176.length co46) x13_4) ∧ Aside0 (Kd.N (Kd.slice 3 (Kd.int .i64)) 23 w' w.heap.size (fun k_ => (P1_ k_ ∨ w.heap.size ≤ k_) ∧ some k_ ≠ ((.slice (some ad175) x8_2.length co47) : Value).ownBlock ∧ some k_ ≠ ((.slice (some ⟨go46, 0, none⟩) y176.length co46) : Value).ownBlock) (.slice Ao23 t163.length co23) t163) ∧ Aside0 (Below w.heap.size w w'))
                  case atStart => exact ⟨(y179), (0), (by first|rfl|(simp;done)|(simp [*];done)), H', ⟨Nat.le_refl _⟩, ⟨by (try simp only [hl1_3]);(with_reducible repeat (first|apply Kd.V_alloc|apply Kd.V_drewN|apply Kd.V_drew));exact Kd.V_mono HO_1.out (fun _ hk => by first|exact ⟨hk.1.1, ⟨hk.1.2.1, ⟨hk.1.2.2, ⟨hk.2, hk.1.2.1⟩⟩⟩⟩|((repeat' apply And.intro) <;> first|exact hk.1|exact hk.2|exact hk.1.1|exact hk.1.2|exact hk.2.1|exact hk.2.2|exact hk.1.1.1|exact hk.1.1.2|exact hk.1.2.1|exact hk.1.2.2|exact hk.2.1.1|exact hk.2.1.2|exact hk.2.2.1|exact hk.2.2.2|exact hk.2.2.2.1|exact hk.2.2.2.2|exact hk.1.2.2.1|exact hk.1.2.2.2|exact hk.1.2.2.2.1|exact hk.1.2.2.2.2))⟩, ⟨by (try simp only [hl1_3]);(with_reducible repeat (first|apply Kd.N_alloc|apply Kd.N_drewN|apply Kd.N_drew));exact Kd.N_mono HO_6.out (fun _ hk => by first|exact ⟨hk.1.1, ⟨hk.1.2, hk.2⟩⟩|((repeat' apply And.intro) <;> first|exact hk.1|exact hk.2|exact hk.1.1|exact hk.1.2|exact hk.2.1|exact hk.2.2|exact hk.1.1.1|exact hk.1.1.2|exact hk.1.2.1|exact hk.1.2.2|exact hk.2.1.1|exact hk.2.1.2|exact hk.2.2.1|exact hk.2.2.2|exact hk.2.2.2.1|exact hk.2.2.2.2|exact hk.1.2.2.1|exact hk.1.2.2.2|exact hk.1.2.2.2.1|exact hk.1.2.2.2.2))⟩, ⟨by (try simp only [hl1_3]);(with_reducible repeat (first|apply Kd.R_alloc|apply Kd.R_drewN|apply Kd.R_drew));exact HO_8.out⟩, ⟨by (try simp only [hl1_3]);(with_reducible repeat (first|apply Kd.R_alloc|apply Kd.R_drewN|apply Kd.R_drew));exact HO178.out⟩, ⟨by (try simp only [hl1_3]);(with_reducible repeat (first|apply Kd.N_alloc|apply Kd.N_drewN|apply Kd.N_drew));exact Kd.N_mono HO_6.out (fun _ hk => by first|exact ⟨hk.1.1, ⟨hk.1.2, hk.2⟩⟩|((repeat' apply And.intro) <;> first|exact hk.1|exact hk.2|exact hk.1.1|exact hk.1.2|exact hk.2.1|exact hk.2.2|exact hk.1.1.1|exact hk.1.1.2|exact hk.1.2.1|exact hk.1.2.2|exact hk.2.1.1|exact hk.2.1.2|exact hk.2.2.1|exact hk.2.2.2|exact hk.2.2.2.1|exact hk.2.2.2.2|exact hk.1.2.2.1|exact hk.1.2.2.2|exact hk.1.2.2.2.1|exact hk.1.2.2.2.2))⟩, ⟨by repeat (first|(with_reducible first|exact HB.out|apply below_alloc|apply pw_below_drewN|apply below_drew1)|exact HB.out)⟩⟩
                  case round =>
                   clear H'
                   try clear c1
                   try clear p1
                   try clear q1
                   try clear hx1
                   try clear c2
                   try clear p2
                   try clear c3
                   try clear p3
                   try clear q3
                   try clear hx3
                   try clear hf3
                   try clear c4
                   try clear p4
                   try clear q4
                   try clear hx4
                   try clear hf4
                   try clear c5
                   try clear c6
                   try clear p6
                   try clear c7
                   try clear c16
                   try clear p16
                   try clear q16
                   try clear hx16
                   try clear p17
                   try clear q17
                   try clear hx17
                   try clear c18
                   try clear c18b0
                   try clear c18b1
                   try clear c19
                   try clear c19b0
                   try clear c19b1
                   try clear c24
                   try clear c24b0
                   try clear c25
                   try clear c25b0
                   try clear c26
                   try clear c26b0
                   try clear c28
                   try clear c28b0
                   try clear c29
                   try clear c29b0
                   try clear p30
                   try clear q30
                   try clear hx30
                   try clear hf30
                   try clear c31
                   try clear c31b0
                   try clear c33
                   try clear c33b0
                   try clear c33b1
                   try clear c37
                   try clear c37b0
                   try clear c38
                   try clear c38b0
                   try clear c39
                   try clear c39b0
                   try clear c40
                   try clear q40
                   try clear c41
                   try clear c42
                   try clear c43
                   try clear c43b0
                   try clear c43b1
                   try clear c44
                   try clear c44b0
                   try clear c44b1
                   try clear c45
                   try clear c45b0
                   try clear p46
                   try clear q46
                   try clear hx46
                   try clear hf46
                   try clear hx169_0
                   try clear hx172_0
                   try clear hx174_0
                   try clear hx175_0
                   try clear hx30_0
                   try clear hx46_0
                   try clear p1
                   try clear p16
                   try clear p169
                   try clear p17
                   try clear p172
                   try clear p174
                   try clear p175
                   try clear p2
                   try clear p3
                   try clear p30
                   try clear p46
                   try clear p6
                   try clear q1
                   try clear q16
                   try clear q169
                   try clear q17
                   try clear q172
                   try clear q174
                   try clear q175
                   try clear q3
                   try clear q30
                   try clear q46
                   obtain ⟨x13_4, x81_4, rfl, HA, HK4, HO_1, HO_6, HO_8, HO_13, HO_79, HB⟩ := hrel
                   have hl13_4 := (Kd.R_reads' HO_13.out).1
                   rw [hl13_4] at HO_13
                   (try simp only [hl13_4])
                   (try simp only [hl13_4] at HO_1)
                   (try simp only [hl13_4] at HO_6)
                   (try simp only [hl13_4] at HO_8)
                   (try simp only [hl13_4] at HO_79)
                   cases gk with
                  |zero => exact absurd HA.out (by simp [impl_NullVector.l2])
                  |succ k4 =>
                    have H := HA.out
                    clear HA
                    simp only [impl_NullVector.l2] at H
                    by_cases c52 : x81_4 < (t163.length : Int)
                    ·rw [if_pos c52] at H
                     have c52b0 : decide (x81_4 < (t163.length : Int)) = true := decide_eq_true c52
                     clear c52
                     by_cases c53 : 0 ≤ x81_4
                     ·rw [if_pos c53] at H
                      have c53b0 : decide (0 ≤ x81_4) = true := decide_eq_true c53
                      clear c53
                      by_cases c54 : x81_4 < (t163.length : Int)
                      ·rw [if_pos c54] at H
                       have c54b0 : decide (x81_4 < (t163.length : Int)) = true := decide_eq_true c54
                       clear c54
                       replace H := Option.bind_eq_some_iff.mp H
                       obtain ⟨t181, A550, H⟩ := H
                       replace H : (if 0 ≤ x66_3 then (if x66_3 < ((rd_L1 t163 x81_4).length : Int) then (if 0 ≤ t181 then (if t181 < ((rd_L1 t163 x81_4).length : Int) then (if (rd (rd_L1 t163 x81_4) t181) = 0 then (none) else (if t181 < (x13_4.length : Int) then (impl_NullVector.l2 k4 x1_3 (l1.length : Int) t163 x7_2 x8_2 x66_3 (x13_4.set (t181 : Int).toNat (wrap64 ((wrap64 (-(rd (rd_L1 t163 x81_4) x66_3))) * (wrap64 (Int.tdiv x7_2 (rd (rd_L1 t163 x81_4) t181)))))) (l1.length : Int) x66_3 t163 (t163.length : Int) (wrap64 (x81_4 + 1))) else (none))) else (none)) else (none)) else (none)) else (none)) = some r := H
                       have A55 := Aside0.mk A550
                       clear A550
                       by_cases c56 : 0 ≤ x66_3
                       ·rw [if_pos c56] at H
                        have c56b0 : decide (0 ≤ x66_3) = true := decide_eq_true c56
                        clear c56
                        by_cases c57 : x66_3 < ((rd_L1 t163 x81_4).length : Int)
                        ·rw [if_pos c57] at H
                         have c57b0 : decide (x66_3 < ((rd_L1 t163 x81_4).length : Int)) = true := decide_eq_true c57
                         clear c57
                         by_cases c58 : 0 ≤ t181
                         ·rw [if_pos c58] at H
                          have c58b0 : decide (0 ≤ t181) = true := decide_eq_true c58
                          clear c58
                          by_cases c59 : t181 < ((rd_L1 t163 x81_4).length : Int)
                          ·rw [if_pos c59] at H
                           have c59b0 : decide (t181 < ((rd_L1 t163 x81_4).length : Int)) = true := decide_eq_true c59
                           clear c59
                           by_cases c60 : (rd (rd_L1 t163 x81_4) t181) = 0
                           ·rw [if_pos c60] at H
                            exact absurd H (by simp)
                           ·rw [if_neg c60] at H
                            have c60b0 : ((rd (rd_L1 t163 x81_4) t181) == 0) = false := beq_eq_false_iff_ne.mpr c60
                            have c60b1 : ((rd (rd_L1 t163 x81_4) t181) != 0) = true := bne_iff_ne.mpr c60
                            by_cases c61 : t181 < (x13_4.length : Int)
                            ·rw [if_pos c61] at H
                             have c61b0 : decide (t181 < (x13_4.length : Int)) = true := decide_eq_true c61
                             clear c61
                             obtain ⟨y184, hy184⟩ : ∃ y_ : List Int, y_ = (x13_4.set (t181 : Int).toNat (wrap64 ((wrap64 (-(rd (rd_L1 t163 x81_4) x66_3))) * (wrap64 (Int.tdiv x7_2 (rd (rd_L1 t163 x81_4) t181)))))) := ⟨_, rfl⟩
                             replace H : (impl_NullVector.l2 k4 x1_3 (l1.length : Int) t163 x7_2 x8_2 x66_3 y184 (l1.length : Int) x66_3 t163 (t163.length : Int) (wrap64 (x81_4 + 1))) = some r := by first|(rw [hy184];with_reducible exact H)|(have H2_ := (Option.bind_some _ _).symm.trans H;rw [hy184];with_reducible exact H2_)|(have H2_ := (Option.bind_some _ _).symm.trans H;with_reducible exact H2_)|with_reducible exact H|(rw [hy184];exact H)|exact H
                             have Ny184 := Aside0.mk hy184
                             clear hy184
                             have H' := Aside0.mk H
                             clear H
                             have p180 : 0 ≤ (x81_4 : Int) := of_decide_eq_true (by first|(with_reducible assumption)|assumption)
                             have q180 : x81_4 < (t163.length : Int) := of_decide_eq_true (by first|(with_reducible assumption)|assumption)
                             obtain ⟨ad180, A180_0, c180_0, e180, hx180_0, hl180_0, hi180_0⟩ := at_L1 (Kd.N_reads' HO_79.out).2.2 x81_4 p180 q180
                             cases e180
                             obtain ⟨ce180, hce180, hMe180, hcc180⟩ := Kd.N_get HO_79.out [] x81_4 p180 (by first|exact q180|exact of_decide_eq_true (by first|(with_reducible assumption)|assumption)|(have e_ := (Kd.N_reads' HO_79.out).1;omega))
                             obtain ⟨ua180_0, uc180_0, rfl, ul180_0, ge180_0⟩ := Kd.FK_slice_open hMe180
                             have hv180_0 := hcc180 0 _ rfl
                             rw [Nat.add_zero, show ((Kd.slice 3 (Kd.int .i64))).sz = 1 from rfl, Nat.mul_one] at hv180_0
                             replace hv180_0 := Option.some.inj (hv180_0.symm.trans hx180_0)
                             injection hv180_0 with hva_ hvn_ hvc_
                             rw [hva_] at ge180_0
                             rw [hvc_] at ul180_0
                             have HL180_0 := Aside0.mk (show Kd.V (Kd.int .i64) 3 _ w.heap.size _ _ (rd_L1 t163 x81_4) from Kd.V_mk ul180_0 ge180_0)
                             clear hva_ hvn_ hvc_ ge180_0 ul180_0
                             clear hcc180 hce180
                             have HR180_0 := Aside0.mk hi180_0
                             have HC180_0 := Aside0.mk hl180_0
                             clear hi180_0 hl180_0
                             replace p180 := eq_true p180
                             replace q180 := eq_true q180
                             try go_wp2_with (first|((with_reducible refine gate_callee (f := 59) rfl ?_);refine goesL_ (some 86) rfl rfl Try.func59 (by kernel_rfl) rfl #[.slice A180_0 (rd_L1 t163 x81_4).length c180_0] rfl (by (try simp only [List.map_toArray, List.map_cons, List.map_nil]);first|done|rfl|(simp only [List.length_drop, List.length_take];rfl)) ?_;(with_reducible refine (impl_lead.calls k4 _ _ (rd_L1 t163 x81_4) t181 _ ?side1 ?side2 A55.out).mono ?_);(case side1 => repeat (first|exact (by repeat (first|(with_reducible exact HR180_0.out)|(with_reducible refine Kd.C_alloc ?_ _)|(with_reducible refine Kd.C_drewN ?_ _)|(with_reducible refine Kd.C_drew ?_)|exact HR180_0.out))|(with_reducible refine Kd.C_alloc ?_ _)|(with_reducible refine Kd.C_drewN ?_ _)|(with_reducible refine Kd.C_drew ?_)));(case side2 => exact HC180_0.out);rintro e w' ⟨rfl, ⟨nd, rfl⟩⟩;refine ⟨_, rfl, ?_⟩;(try (rw [drewN_self wr];generalize hq_ : World.drewN wr _ = wr;have n0_ : Aside0 (Kd.V (Kd.int .i64) 3 wr w.heap.size (fun k_ => (P1_ k_ ∨ w.heap.size ≤ k_) ∧ some k_ ≠ (.slice (some ⟨go46, 0, none⟩) x13_4.length co46 : Value).ownBlock ∧ some k_ ≠ (.slice (some ad180) t163.length co23 : Value).ownBlock ∧ some k_ ≠ (.slice (some ad175) x8_2.length co47 : Value).ownBlock) (.slice A180_0 (rd_L1 t163 x81_4).length c180_0) (rd_L1 t163 x81_4)) := ⟨by rw [← hq_];exact (by (with_reducible repeat (first|apply Kd.V_alloc|apply Kd.V_drewN|apply Kd.V_drew));exact Kd.V_mono HL180_0.out (fun _ hk => by first|exact ⟨hk.1.1, ⟨hk.1.2.2, ⟨hk.2, hk.1.2.1⟩⟩⟩|((repeat' apply And.intro) <;> first|exact hk.1|exact hk.2|exact hk.1.1|exact hk.1.2|exact hk.2.1|exact hk.2.2|exact hk.1.1.1|exact hk.1.1.2|exact hk.1.2.1|exact hk.1.2.2|exact hk.2.1.1|exact hk.2.1.2|exact hk.2.2.1|exact hk.2.2.2|exact hk.2.2.2.1|exact hk.2.2.2.2|exact hk.1.2.2.1|exact hk.1.2.2.2|exact hk.1.2.2.2.1|exact hk.1.2.2.2.2)))⟩;have n1_ : Aside0 (Kd.V (Kd.int .i64) 3 wr w.heap.size (fun k_ => (P1_ k_ ∨ w.heap.size ≤ k_) ∧ some k_ ≠ (.slice (some ⟨go46, 0, none⟩) x13_4.length co46 : Value).ownBlock ∧ some k_ ≠ (.slice (some ad180) t163.length co23 : Value).ownBlock ∧ some k_ ≠ (.slice (some ad180) t163.length co23 : Value).ownBlock ∧ some k_ ≠ (.slice (some ad175) x8_2.length co47 : Value).ownBlock) (.slice A1 x1_3.length c1) x1_3) := ⟨by rw [← hq_];exact (by (with_reducible repeat (first|apply Kd.V_alloc|apply Kd.V_drewN|apply Kd.V_drew));exact Kd.V_mono HO_1.out (fun _ hk => by first|exact ⟨hk.1, ⟨hk.2.2.2.1, ⟨hk.2.1, ⟨hk.2.2.2.2, hk.2.2.1⟩⟩⟩⟩|((repeat' apply And.intro) <;> first|exact hk.1|exact hk.2|exact hk.1.1|exact hk.1.2|exact hk.2.1|exact hk.2.2|exact hk.1.1.1|exact hk.1.1.2|exact hk.1.2.1|exact hk.1.2.2|exact hk.2.1.1|exact hk.2.1.2|exact hk.2.2.1|exact hk.2.2.2|exact hk.2.2.2.1|exact hk.2.2.2.2|exact hk.1.2.2.1|exact hk.1.2.2.2|exact hk.1.2.2.2.1|exact hk.1.2.2.2.2)))⟩;have n2_ : Aside0 (Kd.R (Kd.int .i64) 3 wr w.heap.size (fun k_ => (w.heap.size ≤ k_)) (.slice (some ⟨go46, 0, none⟩) x13_4.length co46) x13_4) := ⟨by rw [← hq_];exact (by (with_reducible repeat (first|apply Kd.R_alloc|apply Kd.R_drewN|apply Kd.R_drew));exact HO_13.out)⟩;have n3_ : Aside0 (Kd.N (Kd.slice 3 (Kd.int .i64)) 23 wr w.heap.size (fun k_ => (P1_ k_ ∨ w.heap.size ≤ k_) ∧ some k_ ≠ (.slice (some ⟨go46, 0, none⟩) x13_4.length co46 : Value).ownBlock ∧ some k_ ≠ (.slice (some ad175) x8_2.length co47 : Value).ownBlock) (.slice (some ad180) t163.length co23) t163) := ⟨by rw [← hq_];exact (by (with_reducible repeat (first|apply Kd.N_alloc|apply Kd.N_drewN|apply Kd.N_drew));exact Kd.N_mono HO_6.out (fun _ hk => by first|exact ⟨hk.1, ⟨hk.2.2, hk.2.1⟩⟩|((repeat' apply And.intro) <;> first|exact hk.1|exact hk.2|exact hk.1.1|exact hk.1.2|exact hk.2.1|exact hk.2.2|exact hk.1.1.1|exact hk.1.1.2|exact hk.1.2.1|exact hk.1.2.2|exact hk.2.1.1|exact hk.2.1.2|exact hk.2.2.1|exact hk.2.2.2|exact hk.2.2.2.1|exact hk.2.2.2.2|exact hk.1.2.2.1|exact hk.1.2.2.2|exact hk.1.2.2.2.1|exact hk.1.2.2.2.2)))⟩;have n4_ : Aside0 (Kd.N (Kd.slice 3 (Kd.int .i64)) 23 wr w.heap.size (fun k_ => (P1_ k_ ∨ w.heap.size ≤ k_) ∧ some k_ ≠ (.slice (some ⟨go46, 0, none⟩) x13_4.length co46 : Value).ownBlock ∧ some k_ ≠ (.slice (some ad175) x8_2.length co47 : Value).ownBlock) (.slice (some ad180) t163.length co23) t163) := ⟨by rw [← hq_];exact (by (with_reducible repeat (first|apply Kd.N_alloc|apply Kd.N_drewN|apply Kd.N_drew));exact Kd.N_mono HO_79.out (fun _ hk => by first|exact ⟨hk.1, ⟨hk.2.2, hk.2.1⟩⟩|((repeat' apply And.intro) <;> first|exact hk.1|exact hk.2|exact hk.1.1|exact hk.1.2|exact hk.2.1|exact hk.2.2|exact hk.1.1.1|exact hk.1.1.2|exact hk.1.2.1|exact hk.1.2.2|exact hk.2.1.1|exact hk.2.1.2|exact hk.2.2.1|exact hk.2.2.2|exact hk.2.2.2.1|exact hk.2.2.2.2|exact hk.1.2.2.1|exact hk.1.2.2.2|exact hk.1.2.2.2.1|exact hk.1.2.2.2.2)))⟩;have n5_ : Aside0 (Kd.R Kd.bool 4 wr w.heap.size (fun k_ => (w.heap.size ≤ k_)) (.slice (some ad175) x8_2.length co47) x8_2) := ⟨by rw [← hq_];exact (by (with_reducible repeat (first|apply Kd.R_alloc|apply Kd.R_drewN|apply Kd.R_drew));exact HO_8.out)⟩;have n6_ : Aside0 (Below w.heap.size w wr) := ⟨by rw [← hq_];exact (by repeat first|(with_reducible first|exact HB.out|apply below_alloc|apply pw_below_drewN|apply below_drew1)|exact HB.out)⟩;have n7_ : Aside0 (Kd.C (Kd.int .i64) wr A180_0 (rd_L1 t163 x81_4).length (rd_L1 t163 x81_4)) := ⟨by rw [← hq_];exact (by repeat (first|(with_reducible exact HR180_0.out)|(with_reducible refine Kd.C_alloc ?_ _)|(with_reducible refine Kd.C_drewN ?_ _)|(with_reducible refine Kd.C_drew ?_)|exact HR180_0.out))⟩;clear HL180_0 HO_1 HO_13 HO_6 HO_79 HO_8 HB HR180_0 hq_;have HL180_0 := n0_;have HO_1 := n1_;have HO_13 := n2_;have HO_6 := n3_;have HO_79 := n4_;have HO_8 := n5_;have HB := n6_;have HR180_0 := n7_;clear n0_ n1_ n2_ n3_ n4_ n5_ n6_ n7_))))
                             have n0_ := Aside0.mk (Kd.V_drew HO_1.out)
                             have n1_ := Aside0.mk (Kd.N_drew HO_6.out)
                             have n2_ := Aside0.mk (Kd.R_drew HO_8.out)
                             have n3_ := Aside0.mk (Kd.R_drew HO_13.out)
                             have n4_ := Aside0.mk (Kd.N_drew HO_79.out)
                             have n5_ := Aside0.mk (Kd.V_drew HL180_0.out)
                             have n6_ := Aside0.mk (Kd.C_drew HR180_0.out)
                             have n7_ := Aside0.mk (below_drew1 HB.out)
                             clear HO_1
                             clear HO_6
                             clear HO_8
                             clear HO_13
                             clear HO_79
                             clear HL180_0
                             clear HR180_0
                             clear HB
                             have HO_1 := n0_
                             have HO_6 := n1_
                             have HO_8 := n2_
                             have HO_13 := n3_
                             have HO_79 := n4_
                             have HL180_0 := n5_
                             have HR180_0 := n6_
                             have HB := n7_
                             clear n0_ n1_ n2_ n3_ n4_ n5_ n6_ n7_
                             have p182 : 0 ≤ (x66_3 : Int) := of_decide_eq_true (by first|(with_reducible assumption)|assumption)
                             have q182 : x66_3 < ((rd_L1 t163 x81_4).length : Int) := of_decide_eq_true (by first|(with_reducible assumption)|assumption)
                             obtain ⟨ad182, e182, hx182_0⟩ := Kd.at_int (by repeat (first|(with_reducible exact HR180_0.out)|(with_reducible refine Kd.C_alloc ?_ _)|(with_reducible refine Kd.C_drewN ?_ _)|(with_reducible refine Kd.C_drew ?_)|exact HR180_0.out)) x66_3 p182 q182
                             cases e182
                             replace p182 := eq_true p182
                             replace q182 := eq_true q182
                             have p183 : 0 ≤ (t181 : Int) := of_decide_eq_true (by first|(with_reducible assumption)|assumption)
                             have q183 : t181 < ((rd_L1 t163 x81_4).length : Int) := of_decide_eq_true (by first|(with_reducible assumption)|assumption)
                             obtain ⟨ad183, e183, hx183_0⟩ := Kd.at_int (by repeat (first|(with_reducible exact HR180_0.out)|(with_reducible refine Kd.C_alloc ?_ _)|(with_reducible refine Kd.C_drewN ?_ _)|(with_reducible refine Kd.C_drew ?_)|exact HR180_0.out)) t181 p183 q183
                             obtain rfl : ad182 = ad183 := (by injection e183)
                             replace p183 := eq_true p183
                             replace q183 := eq_true q183
                             have p62 : 0 ≤ (t181 : Int) := of_decide_eq_true (by first|(with_reducible assumption)|assumption)
                             have q62 : (t181 : Int) < ((x13_4.length : Int) : Int) := of_decide_eq_true (by first|(with_reducible assumption)|assumption)
                             obtain ⟨hx62_0, hf62_0⟩ := Kd.R_celln 0 HO_13.out (t181 : Int) p62 q62
                             replace p62 := eq_true p62
                             replace q62 := eq_true q62
                             have HP64 := Kd.R_putn HO_13.out (t181 : Int) (wrap64 ((wrap64 (-(rd (rd_L1 t163 x81_4) x66_3))) * (wrap64 (Int.tdiv x7_2 (rd (rd_L1 t163 x81_4) t181)))))
                             rw [← Ny184.out] at HP64
                             have HQ64 := Aside0.mk HP64
                             clear HP64
                             refine start_ (n := 16) (S := fun w' => w'.cell? (ad182.add (x66_3).toNat) = some (.int .i64 (rd (rd_L1 t163 x81_4) x66_3)) ∧ w'.cell? (ad182.add (t181).toNat) = some (.int .i64 (rd (rd_L1 t163 x81_4) t181))) (ds := [15]) #[false, false, false, false, false, false, false, false, false, false, false, false, false, false, false, false] (by kernel_rfl) rfl rfl ⟨hx182_0, hx183_0⟩ (fun hHeld => ?_);refine with_tabW impl_NullVector.tab24 impl_NullVector.bits24 (fun HT_ HW_ => ?_)
                             generalize wr.drew = w63 at HO_1 HO_6 HO_8 HO_13 HO_79 HL180_0 HR180_0 HB HQ64 hf62_0 hx182_0 hx183_0 hx62_0 hHeld ⊢
                             refine pure_ (i := 0) (N := some 87) (v := ?_) (a' := ?_) #[true, false, false, false, false, false, false, false, false, false, false, false, false, false, false, false] rfl rfl (any_of HT_.out (by kernel_rfl)) (fun _ _ _ h => h) (Or.inl ⟨by rfl, ?_⟩) ?_ ?_
                             rotate_left
                             ·intro w'
                              go_simp
                              with_reducible rfl
                             rotate_left
                             ·simp only [Act.put, List.setIfInBounds_toArray, List.set_cons_zero, List.set_cons_succ, i64_w, i32_w]
                              rfl
                             refine pure_ (i := 1) (N := some 88) (v := ?_) (a' := ?_) #[true, true, false, false, false, false, false, false, false, false, false, false, false, false, false, false] rfl rfl (any_of HT_.out (by kernel_rfl)) (fun _ _ _ h => h) (Or.inl ⟨by rfl, ?_⟩) ?_ ?_
                             rotate_left
                             ·intro w'
                              go_simp
                              with_reducible rfl
                             rotate_left
                             ·simp only [Act.put, List.setIfInBounds_toArray, List.set_cons_zero, List.set_cons_succ, i64_w, i32_w]
                              rfl
                             refine pure_ (i := 2) (N := some 89) (v := ?_) (a' := ?_) #[true, true, true, false, false, false, false, false, false, false, false, false, false, false, false, false] rfl rfl (any_of HT_.out (by kernel_rfl)) (fun _ _ _ h => h) (Or.inl ⟨by rfl, ?_⟩) ?_ ?_
                             rotate_left
                             ·intro w'
                              go_simp
                              with_reducible rfl
                             rotate_left
                             ·simp only [Act.put, List.setIfInBounds_toArray, List.set_cons_zero, List.set_cons_succ, i64_w, i32_w]
                              rfl
                             refine pure_ (i := 3) (N := some 90) (v := ?_) (a' := ?_) #[true, true, true, true, false, false, false, false, false, false, false, false, false, false, false, false] rfl rfl (any_of HT_.out (by kernel_rfl)) (fun _ _ _ h => h) (Or.inl ⟨by rfl, ?_⟩) ?_ ?_
                             rotate_left
                             ·intro w'
                              go_simp
                              with_reducible rfl
                             rotate_left
                             ·simp only [Act.put, List.setIfInBounds_toArray, List.set_cons_zero, List.set_cons_succ, i64_w, i32_w]
                              rfl
                             refine pure_ (i := 4) (N := some 91) (v := ?_) (a' := ?_) #[true, true, true, true, true, false, false, false, false, false, false, false, false, false, false, false] rfl rfl (any_of HT_.out (by kernel_rfl)) (fun _ _ _ h => h) (Or.inl ⟨by rfl, ?_⟩) ?_ ?_
                             rotate_left
                             ·intro w'
                              go_simp
                              with_reducible rfl
                             rotate_left
                             ·simp only [Act.put, List.setIfInBounds_toArray, List.set_cons_zero, List.set_cons_succ, i64_w, i32_w]
                              rfl
                             refine pure_ (i := 7) (N := some 94) (v := ?_) (a' := ?_) #[true, true, true, true, true, false, false, true, false, false, false, false, false, false, false, false] rfl rfl (any_of HT_.out (by kernel_rfl)) (fun _ _ _ h => h) (Or.inl ⟨by rfl, ?_⟩) ?_ ?_
                             rotate_left
                             ·intro w'
                              go_simp
                              with_reducible rfl
                             rotate_left
                             ·simp only [Act.put, List.setIfInBounds_toArray, List.set_cons_zero, List.set_cons_succ, i64_w, i32_w]
                              rfl
                             refine pure_ (i := 8) (N := some 95) (v := ?_) (a' := ?_) #[true, true, true, true, true, false, false, true, true, false, false, false, false, false, false, false] rfl rfl (any_of HT_.out (by kernel_rfl)) (fun _ _ _ h => h) (Or.inl ⟨by rfl, ?_⟩) ?_ ?_
                             rotate_left
                             ·intro w'
                              go_simp
                              with_reducible rfl
                             rotate_left
                             ·simp only [Act.put, List.setIfInBounds_toArray, List.set_cons_zero, List.set_cons_succ, i64_w, i32_w]
                              rfl
                             refine pure_ (i := 9) (N := some 96) (v := ?_) (a' := ?_) #[true, true, true, true, true, false, false, true, true, true, false, false, false, false, false, false] rfl rfl (any_of HT_.out (by kernel_rfl)) (fun _ _ _ h => h) (Or.inl ⟨by rfl, ?_⟩) ?_ ?_
                             rotate_left
                             ·intro w'
                              go_simp
                              with_reducible rfl
                             rotate_left
                             ·simp only [Act.put, List.setIfInBounds_toArray, List.set_cons_zero, List.set_cons_succ, i64_w, i32_w]
                              rfl
                             refine pure_ (i := 10) (N := some 97) (v := ?_) (a' := ?_) #[true, true, true, true, true, false, false, true, true, true, true, false, false, false, false, false] rfl rfl (any_of HT_.out (by kernel_rfl)) (fun _ _ _ h => h) (Or.inl ⟨by rfl, ?_⟩) ?_ ?_
                             rotate_left
                             ·intro w'
                              go_simp
                              with_reducible rfl
                             rotate_left
                             ·simp only [Act.put, List.setIfInBounds_toArray, List.set_cons_zero, List.set_cons_succ, i64_w, i32_w]
                              rfl
                             refine take_ (i := 5) (N := some 92) (v := ?_) (a' := ?_) #[true, true, true, true, true, true, false, true, true, true, true, false, false, false, false, false] rfl rfl (take_ofW HT_.out HW_.out (by kernel_rfl)) (fun _ _ _ h => h) (Or.inl ⟨by rfl, ?_⟩) hHeld ?_ ?_
                             rotate_left
                             ·rintro w' ⟨s0, s1⟩
                              go_simp
                              with_reducible rfl
                             rotate_left
                             ·simp only [Act.put, List.setIfInBounds_toArray, List.set_cons_zero, List.set_cons_succ, i64_w, i32_w]
                              rfl
                             refine pure_ (i := 6) (N := some 93) (v := ?_) (a' := ?_) #[true, true, true, true, true, true, true, true, true, true, true, false, false, false, false, false] rfl rfl (any_of HT_.out (by kernel_rfl)) (fun _ _ _ h => h) (Or.inl ⟨by rfl, ?_⟩) ?_ ?_
                             rotate_left
                             ·intro w'
                              go_simp
                              with_reducible rfl
                             rotate_left
                             ·simp only [Act.put, List.setIfInBounds_toArray, List.set_cons_zero, List.set_cons_succ, i64_w, i32_w]
                              rfl
                             refine take_ (i := 11) (N := some 98) (v := ?_) (a' := ?_) #[true, true, true, true, true, true, true, true, true, true, true, true, false, false, false, false] rfl rfl (take_ofW HT_.out HW_.out (by kernel_rfl)) (fun _ _ _ h => h) (Or.inl ⟨by rfl, ?_⟩) hHeld ?_ ?_
                             rotate_left
                             ·rintro w' ⟨s0, s1⟩
                              go_simp
                              with_reducible rfl
                             rotate_left
                             ·simp only [Act.put, List.setIfInBounds_toArray, List.set_cons_zero, List.set_cons_succ, i64_w, i32_w]
                              rfl
                             refine pure_ (i := 12) (N := some 99) (v := ?_) (a' := ?_) #[true, true, true, true, true, true, true, true, true, true, true, true, true, false, false, false] rfl rfl (any_of HT_.out (by kernel_rfl)) (fun _ _ _ h => h) (Or.inl ⟨by rfl, ?_⟩) ?_ ?_
                             rotate_left
                             ·intro w'
                              go_simp
                              with_reducible rfl
                             rotate_left
                             ·simp only [Act.put, List.setIfInBounds_toArray, List.set_cons_zero, List.set_cons_succ, i64_w, i32_w]
                              rfl
                             refine pure_ (i := 13) (N := some 100) (v := ?_) (a' := ?_) #[true, true, true, true, true, true, true, true, true, true, true, true, true, true, false, false] rfl rfl (any_of HT_.out (by kernel_rfl)) (fun _ _ _ h => h) (Or.inl ⟨by rfl, ?_⟩) ?_ ?_
                             rotate_left
                             ·intro w'
                              go_simp
                              with_reducible rfl
                             rotate_left
                             ·simp only [Act.put, List.setIfInBounds_toArray, List.set_cons_zero, List.set_cons_succ, i64_w, i32_w]
                              rfl
                             refine pure_ (i := 14) (N := some 101) (v := ?_) (a' := ?_) #[true, true, true, true, true, true, true, true, true, true, true, true, true, true, true, false] rfl rfl (any_of HT_.out (by kernel_rfl)) (fun _ _ _ h => h) (Or.inl ⟨by rfl, ?_⟩) ?_ ?_
                             rotate_left
                             ·intro w'
                              go_simp
                              with_reducible rfl
                             rotate_left
                             ·simp only [Act.put, List.setIfInBounds_toArray, List.set_cons_zero, List.set_cons_succ, i64_w, i32_w]
                              rfl
                             refine last_ (i := 15) (N := none) #[true, true, true, true, true, true, true, true, true, true, true, true, true, true, true, true] rfl rfl (one_of HT_.out (by kernel_rfl)) (by decide) (fun K hK => ?_)
                             refine skip_ (w1 := ?_) (by rfl) rfl ?_ ?_
                             rotate_left
                             ·go_simp
                              rfl
                             refine hK.out _ _ ?_
                             clear hK K
                             refine done_ (done_of HT_.out (by kernel_rfl)) ?_
                             try go_wp2
                             (try simp only [← hl13_4])
                             go_roundg k4
                             case measure => have := HJ2.out;have := HK2.out;have := HK3.out;have := HK4.out;omega
                             case rel => exact ⟨(y184), (wrap64 (x81_4 + 1)), (by first|rfl|(simp;done)|(simp [*];done)), H', ⟨by have := HJ2.out;have := HK2.out;have := HK3.out;have := HK4.out;omega⟩, ⟨by (try simp only [hl1_3]);(try simp only [hl13_4]);(with_reducible repeat (first|apply Kd.V_alloc|apply Kd.V_drewN|apply Kd.V_drew));exact Kd.V_mono (Kd.V_far (p := ⟨go46, (t181 : Int).toNat, none⟩) (Kd.V_mono HO_1.out (fun k_ hk => (⟨hk, fun e_ => by rw [e_] at hk;first|exact hk.1 rfl|exact hk.2 rfl|exact hk.1.1 rfl|exact hk.1.2 rfl|exact hk.2.1 rfl|exact hk.2.2 rfl|exact hk.1.2.1 rfl|exact hk.1.2.2 rfl|exact hk.2.2.1 rfl|exact hk.2.2.2 rfl|exact hk.2.2.2.1 rfl|exact hk.2.2.2.2 rfl⟩ : _ ∧ k_ ≠ go46))) (fun _ hk => hk.2) (.int .i64 (wrap64 ((wrap64 (-(rd (rd_L1 t163 x81_4) x66_3))) * (wrap64 (Int.tdiv x7_2 (rd (rd_L1 t163 x81_4) t181))))))) (fun _ hk => by first|exact ⟨hk.1.1, ⟨hk.1.2.1, ⟨hk.1.2.2.1, ⟨hk.1.2.2.2.1, hk.1.2.2.2.2⟩⟩⟩⟩|((repeat' apply And.intro) <;> first|exact hk.1|exact hk.2|exact hk.1.1|exact hk.1.2|exact hk.2.1|exact hk.2.2|exact hk.1.1.1|exact hk.1.1.2|exact hk.1.2.1|exact hk.1.2.2|exact hk.2.1.1|exact hk.2.1.2|exact hk.2.2.1|exact hk.2.2.2|exact hk.2.2.2.1|exact hk.2.2.2.2|exact hk.1.2.2.1|exact hk.1.2.2.2|exact hk.1.2.2.2.1|exact hk.1.2.2.2.2))⟩, ⟨by (try simp only [hl1_3]);(try simp only [hl13_4]);(with_reducible repeat (first|apply Kd.N_alloc|apply Kd.N_drewN|apply Kd.N_drew));exact Kd.N_mono (Kd.N_far (p := ⟨go46, (t181 : Int).toNat, none⟩) (Kd.N_mono HO_6.out (fun k_ hk => (⟨hk, fun e_ => by rw [e_] at hk;first|exact hk.1 rfl|exact hk.2 rfl|exact hk.1.1 rfl|exact hk.1.2 rfl|exact hk.2.1 rfl|exact hk.2.2 rfl|exact hk.1.2.1 rfl|exact hk.1.2.2 rfl|exact hk.2.2.1 rfl|exact hk.2.2.2 rfl|exact hk.2.2.2.1 rfl|exact hk.2.2.2.2 rfl⟩ : _ ∧ k_ ≠ go46))) (fun _ hk => hk.2) (.int .i64 (wrap64 ((wrap64 (-(rd (rd_L1 t163 x81_4) x66_3))) * (wrap64 (Int.tdiv x7_2 (rd (rd_L1 t163 x81_4) t181))))))) (fun _ hk => by first|exact ⟨hk.1.1, ⟨hk.1.2.1, hk.1.2.2⟩⟩|((repeat' apply And.intro) <;> first|exact hk.1|exact hk.2|exact hk.1.1|exact hk.1.2|exact hk.2.1|exact hk.2.2|exact hk.1.1.1|exact hk.1.1.2|exact hk.1.2.1|exact hk.1.2.2|exact hk.2.1.1|exact hk.2.1.2|exact hk.2.2.1|exact hk.2.2.2|exact hk.2.2.2.1|exact hk.2.2.2.2|exact hk.1.2.2.1|exact hk.1.2.2.2|exact hk.1.2.2.2.1|exact hk.1.2.2.2.2))⟩, ⟨by (try simp only [hl1_3]);(try simp only [hl13_4]);(with_reducible repeat (first|apply Kd.R_alloc|apply Kd.R_drewN|apply Kd.R_drew));exact Kd.R_mono (Kd.R_far (p := ⟨go46, (t181 : Int).toNat, none⟩) (Kd.R_types HO_8.out (Kd.R_typed HO_13.out go46 rfl).choose_spec (by decide)) (fun _ hk => hk.2) (.int .i64 (wrap64 ((wrap64 (-(rd (rd_L1 t163 x81_4) x66_3))) * (wrap64 (Int.tdiv x7_2 (rd (rd_L1 t163 x81_4) t181))))))) (fun _ hk => hk.1)⟩, ⟨by (try simp only [hl1_3]);(try simp only [hl13_4]);(with_reducible repeat (first|apply Kd.R_alloc|apply Kd.R_drewN|apply Kd.R_drew));exact HQ64.out⟩, ⟨by (try simp only [hl1_3]);(try simp only [hl13_4]);(with_reducible repeat (first|apply Kd.N_alloc|apply Kd.N_drewN|apply Kd.N_drew));exact Kd.N_mono (Kd.N_far (p := ⟨go46, (t181 : Int).toNat, none⟩) (Kd.N_mono HO_79.out (fun k_ hk => (⟨hk, fun e_ => by rw [e_] at hk;first|exact hk.1 rfl|exact hk.2 rfl|exact hk.1.1 rfl|exact hk.1.2 rfl|exact hk.2.1 rfl|exact hk.2.2 rfl|exact hk.1.2.1 rfl|exact hk.1.2.2 rfl|exact hk.2.2.1 rfl|exact hk.2.2.2 rfl|exact hk.2.2.2.1 rfl|exact hk.2.2.2.2 rfl⟩ : _ ∧ k_ ≠ go46))) (fun _ hk => hk.2) (.int .i64 (wrap64 ((wrap64 (-(rd (rd_L1 t163 x81_4) x66_3))) * (wrap64 (Int.tdiv x7_2 (rd (rd_L1 t163 x81_4) t181))))))) (fun _ hk => by first|exact ⟨hk.1.1, ⟨hk.1.2.1, hk.1.2.2⟩⟩|((repeat' apply And.intro) <;> first|exact hk.1|exact hk.2|exact hk.1.1|exact hk.1.2|exact hk.2.1|exact hk.2.2|exact hk.1.1.1|exact hk.1.1.2|exact hk.1.2.1|exact hk.1.2.2|exact hk.2.1.1|exact hk.2.1.2|exact hk.2.2.1|exact hk.2.2.2|exact hk.2.2.2.1|exact hk.2.2.2.2|exact hk.1.2.2.1|exact hk.1.2.2.2|exact hk.1.2.2.2.1|exact hk.1.2.2.2.2))⟩, ⟨by repeat (first|(with_reducible first|exact HB.out|apply below_alloc|apply pw_below_drewN|apply below_drew1|refine below_set ?_ GB46.out)|exact HB.out)⟩⟩
                            ·rw [if_neg c61] at H
                             exact absurd H (by simp)
                          ·rw [if_neg c59] at H
                           exact absurd H (by simp)
                         ·rw [if_neg c58] at H
                          exact absurd H (by simp)
                        ·rw [if_neg c57] at H
                         exact absurd H (by simp)
                       ·rw [if_neg c56] at H
                        exact absurd H (by simp)
                      ·rw [if_neg c54] at H
                       exact absurd H (by simp)
                     ·rw [if_neg c53] at H
                      exact absurd H (by simp)
                    ·rw [if_neg c52] at H
                     have c52b0 : decide (x81_4 < (t163.length : Int)) = false := decide_eq_false c52
                     clear c52
                     replace H := Option.bind_eq_some_iff.mp H
                     obtain ⟨t185, A650, H⟩ := H
                     replace H : (if t185 = 0 then (impl_NullVector.l1 k4 x1_3 (l1.length : Int) t163 x7_2 x8_2 (l1.length : Int) (wrap64 (x66_3 + 1))) else (some x13_4)) = some r := H
                     have A65 := Aside0.mk A650
                     clear A650
                     by_cases c66 : t185 = 0
                     ·rw [if_pos c66] at H
                      have c66b0 : (t185 == 0) = true := beq_iff_eq.mpr c66
                      have c66b1 : (t185 != 0) = false := bne_eq_false_iff_eq.mpr c66
                      clear c66
                      have H' := Aside0.mk H
                      clear H
                      go_wp2_with (first|((with_reducible refine gate_callee (f := 55) rfl ?_);refine goesL_ (some 105) rfl rfl Try.func55 (by kernel_rfl) rfl #[.slice (some ⟨go46, 0, none⟩) x13_4.length co46, .slice A1 x1_3.length c1] rfl (by (try simp only [List.map_toArray, List.map_cons, List.map_nil]);first|done|rfl|(simp only [List.length_drop, List.length_take];rfl)) ?_;(with_reducible refine (impl_DotOf.calls k4 _ _ x13_4 _ _ x1_3 t185 _ ?side1 ?side2 ?side3 ?side4 A65.out).mono ?_);(case side1 => repeat (first|exact (Kd.R_reads' HO_13.out).2.2|(with_reducible refine Kd.C_alloc ?_ _)|(with_reducible refine Kd.C_drewN ?_ _)|(with_reducible refine Kd.C_drew ?_)));(case side2 => exact (Kd.R_reads' HO_13.out).2.1);(case side3 => repeat (first|exact (Kd.V_reads' HO_1.out).2.2|(with_reducible refine Kd.C_alloc ?_ _)|(with_reducible refine Kd.C_drewN ?_ _)|(with_reducible refine Kd.C_drew ?_)));(case side4 => exact (Kd.V_reads' HO_1.out).2.1);rintro e w67 ⟨rfl, hb⟩;refine ⟨_, rfl, ?_⟩;have n0_ := Aside0.mk (Kd.V_below (by (with_reducible repeat (first|apply Kd.V_alloc|apply Kd.V_drewN|apply Kd.V_drew));exact HO_1.out) hb);have n1_ := Aside0.mk (Kd.N_below (by (with_reducible repeat (first|apply Kd.N_alloc|apply Kd.N_drewN|apply Kd.N_drew));exact HO_6.out) hb);have n2_ := Aside0.mk (Kd.R_below (by (with_reducible repeat (first|apply Kd.R_alloc|apply Kd.R_drewN|apply Kd.R_drew));exact HO_8.out) hb);have n3_ := Aside0.mk (Kd.R_below (by (with_reducible repeat (first|apply Kd.R_alloc|apply Kd.R_drewN|apply Kd.R_drew));exact HO_13.out) hb);have n4_ := Aside0.mk (Kd.N_below (by (with_reducible repeat (first|apply Kd.N_alloc|apply Kd.N_drewN|apply Kd.N_drew));exact HO_79.out) hb);have n5_ := Aside0.mk (below_step (by repeat first|(with_reducible first|exact HB.out|apply below_alloc|apply pw_below_drewN|apply below_drew1)|exact HB.out) hb);clear HO_1;clear HO_6;clear HO_8;clear HO_13;clear HO_79;clear HB;have HO_1 := n0_;have HO_6 := n1_;have HO_8 := n2_;have HO_13 := n3_;have HO_79 := n4_;have HB := n5_;clear n0_ n1_ n2_ n3_ n4_ n5_;(try clear hb);(try clear hb2);(try clear hk);(try clear hi)))
                      (try simp only [← hl1_3, ← hl13_4])
                      go_roundg k4
                      case measure => have := HJ2.out;have := HK2.out;have := HK3.out;have := HK4.out;omega
                      case rel => exact ⟨(x1_3), (wrap64 (x66_3 + 1)), (by first|rfl|(simp;done)|(simp [*];done)), H', ⟨by have := HJ2.out;have := HK2.out;have := HK3.out;have := HK4.out;omega⟩, ⟨by (try simp only [hl1_3]);(try simp only [hl13_4]);(with_reducible repeat (first|apply Kd.V_alloc|apply Kd.V_drewN|apply Kd.V_drew));exact Kd.V_mono HO_1.out (fun _ hk => by first|exact ⟨hk.1, ⟨hk.2.1, hk.2.2.1⟩⟩|((repeat' apply And.intro) <;> first|exact hk.1|exact hk.2|exact hk.1.1|exact hk.1.2|exact hk.2.1|exact hk.2.2|exact hk.1.1.1|exact hk.1.1.2|exact hk.1.2.1|exact hk.1.2.2|exact hk.2.1.1|exact hk.2.1.2|exact hk.2.2.1|exact hk.2.2.2|exact hk.2.2.2.1|exact hk.2.2.2.2|exact hk.1.2.2.1|exact hk.1.2.2.2|exact hk.1.2.2.2.1|exact hk.1.2.2.2.2))⟩, ⟨by (try simp only [hl1_3]);(try simp only [hl13_4]);(with_reducible repeat (first|apply Kd.N_alloc|apply Kd.N_drewN|apply Kd.N_drew));exact Kd.N_mono HO_6.out (fun _ hk => by first|exact ⟨hk.1, hk.2.1⟩|((repeat' apply And.intro) <;> first|exact hk.1|exact hk.2|exact hk.1.1|exact hk.1.2|exact hk.2.1|exact hk.2.2|exact hk.1.1.1|exact hk.1.1.2|exact hk.1.2.1|exact hk.1.2.2|exact hk.2.1.1|exact hk.2.1.2|exact hk.2.2.1|exact hk.2.2.2|exact hk.2.2.2.1|exact hk.2.2.2.2|exact hk.1.2.2.1|exact hk.1.2.2.2|exact hk.1.2.2.2.1|exact hk.1.2.2.2.2))⟩, ⟨by (try simp only [hl1_3]);(try simp only [hl13_4]);(with_reducible repeat (first|apply Kd.R_alloc|apply Kd.R_drewN|apply Kd.R_drew));exact HO_8.out⟩, ⟨by repeat (first|(with_reducible first|exact HB.out|apply below_alloc|apply pw_below_drewN|apply below_drew1)|exact HB.out)⟩⟩
                     ·rw [if_neg c66] at H
                      have c66b0 : (t185 == 0) = false := beq_eq_false_iff_ne.mpr c66
                      have c66b1 : (t185 != 0) = true := bne_iff_ne.mpr c66
                      obtain rfl := Option.some.inj H
                      go_wp2_with (first|((with_reducible refine gate_callee (f := 55) rfl ?_);refine goesL_ (some 105) rfl rfl Try.func55 (by kernel_rfl) rfl #[.slice (some ⟨go46, 0, none⟩) x13_4.length co46, .slice A1 x1_3.length c1] rfl (by (try simp only [List.map_toArray, List.map_cons, List.map_nil]);first|done|rfl|(simp only [List.length_drop, List.length_take];rfl)) ?_;(with_reducible refine (impl_DotOf.calls k4 _ _ x13_4 _ _ x1_3 t185 _ ?side1 ?side2 ?side3 ?side4 A65.out).mono ?_);(case side1 => repeat (first|exact (Kd.R_reads' HO_13.out).2.2|(with_reducible refine Kd.C_alloc ?_ _)|(with_reducible refine Kd.C_drewN ?_ _)|(with_reducible refine Kd.C_drew ?_)));(case side2 => exact (Kd.R_reads' HO_13.out).2.1);(case side3 => repeat (first|exact (Kd.V_reads' HO_1.out).2.2|(with_reducible refine Kd.C_alloc ?_ _)|(with_reducible refine Kd.C_drewN ?_ _)|(with_reducible refine Kd.C_drew ?_)));(case side4 => exact (Kd.V_reads' HO_1.out).2.1);rintro e w68 ⟨rfl, hb⟩;refine ⟨_, rfl, ?_⟩;have n0_ := Aside0.mk (Kd.V_below (by (with_reducible repeat (first|apply Kd.V_alloc|apply Kd.V_drewN|apply Kd.V_drew));exact HO_1.out) hb);have n1_ := Aside0.mk (Kd.N_below (by (with_reducible repeat (first|apply Kd.N_alloc|apply Kd.N_drewN|apply Kd.N_drew));exact HO_6.out) hb);have n2_ := Aside0.mk (Kd.R_below (by (with_reducible repeat (first|apply Kd.R_alloc|apply Kd.R_drewN|apply Kd.R_drew));exact HO_8.out) hb);have n3_ := Aside0.mk (Kd.R_below (by (with_reducible repeat (first|apply Kd.R_alloc|apply Kd.R_drewN|apply Kd.R_drew));exact HO_13.out) hb);have n4_ := Aside0.mk (Kd.N_below (by (with_reducible repeat (first|apply Kd.N_alloc|apply Kd.N_drewN|apply Kd.N_drew));exact HO_79.out) hb);have n5_ := Aside0.mk (below_step (by repeat first|(with_reducible first|exact HB.out|apply below_alloc|apply pw_below_drewN|apply below_drew1)|exact HB.out) hb);clear HO_1;clear HO_6;clear HO_8;clear HO_13;clear HO_79;clear HB;have HO_1 := n0_;have HO_6 := n1_;have HO_8 := n2_;have HO_13 := n3_;have HO_79 := n4_;have HB := n5_;clear n0_ n1_ n2_ n3_ n4_ n5_;(try clear hb);(try clear hb2);(try clear hk);(try clear hi)))
                      go_ret
                      exact ⟨_, by first|rfl|(simp [errW_none, errW_some] <;> rfl)|(simp [*, errW_none, errW_some] <;> rfl), by (with_reducible repeat (first|apply Kd.R_alloc|apply Kd.R_drewN|apply Kd.R_drew));exact HO_13.out, by repeat (first|(with_reducible first|exact HB.out|apply below_alloc|apply pw_below_drewN|apply below_drew1)|exact HB.out)⟩
                 ·rw [if_neg c45] at H
                  exact absurd H (by simp)
                ·rw [if_neg c44] at H
                 exact absurd H (by simp)
               ·rw [if_neg c43] at H
                exact absurd H (by simp)
             ·rw [if_neg c39] at H
              exact absurd H (by simp)
            ·rw [if_neg c38] at H
             exact absurd H (by simp)
           ·rw [if_neg c37] at H
            have c37b0 : decide (x66_3 < (l1.length : Int)) = false := decide_eq_false c37
            have c37b1 : decide (x66_3 < (x1_3.length : Int)) = false := by rw [show (x1_3.length : Int) = (l1.length : Int) by omega];exact c37b0
            clear c37
            obtain rfl := Option.some.inj H
            go_wp2
            go_ret
            exact ⟨_, by first|rfl|(simp [errW_none, errW_some] <;> rfl)|(simp [*, errW_none, errW_some] <;> rfl), by first|exact Kd.R_nil _ _ _ _ _|exact Kd.N_nil _ _ _ _ _|exact Kd.V_nil _ _ _ _ _|exact Kd.Q_nil _ _ _ _ _|exact Kd.S_nil _ _ _ _ _, by repeat (first|(with_reducible first|exact HB.out|apply below_alloc|apply pw_below_drewN|apply below_drew1)|exact HB.out)⟩
     ·rw [if_neg c19] at H
      exact absurd H (by simp)
    ·rw [if_neg c18] at H
     exact absurd H (by simp)
theorem impl_NullVector.calls (k : Nat) (A0 : Option Addr) (c0 : Nat) (l0 : List (List Int)) (A1 : Option Addr) (c1 : Nat) (l1 : List Int) (r : List Int) (w : World) (hr0 : Kd.C (Kd.slice 3 (Kd.int .i64)) w A0 l0.length l0) (hc0 : l0.length ≤ c0) (hr1 : Kd.C (Kd.int .i64) w A1 l1.length l1) (hc1 : l1.length ≤ c1) (h : impl_NullVector.f k l0 l1 = some r) :
  Calls Try.prog 42 #[.slice A0 l0.length c0, .slice A1 l1.length c1] w fun e w' => ∃ v0_ : Value, e = .returned (v0_) ∧ Kd.R (Kd.int .i64) 3 w' w.heap.size (fun _ => True) v0_ r ∧ Below w.heap.size w w' :=
 (impl_NullVector.callsV k _ _ l0 (fun k_ => k_ < w.heap.size) _ _ l1 r w hr0 hc0 (Kd.V_mk hc1 (Kd.C_F (Kd.heap_int _) hr1)) h).mono fun e w' ⟨v0_, h1, h2, h3⟩ => ⟨v0_, h1, Kd.R_mono h2 fun _ _ => trivial, h3⟩
def spec_l1In.f (a0 : Int) (a1 : Int) (a2 : Int) : Option (Bool) := if a0 ≥ a1 then (some (decide (a0 ≤ a2))) else (some false)
set_option maxHeartbeats 8000000 in
set_option maxRecDepth 100000 in
theorem spec_l1In.calls (a0 : Int) (a1 : Int) (a2 : Int) (r : Bool) (w : World) (h : spec_l1In.f a0 a1 a2 = some r) :
 Calls Try.prog 83 #[.int .i64 a0, .int .i64 a1, .int .i64 a2] w fun e w' => e = .returned (.bool r) ∧ Drawn0 w w' := by
 have H:(if a0≥a1 then (some (decide (a0≤a2))) else (some false))=some r:=h;clear h;by_cases c4:a0≥a1
 ·rw [if_pos c4] at H;have c4b0:decide (a1≤a0)=true:=decide_eq_true c4;clear c4;obtain rfl:=Option.some.inj H;go_enter Try.func83,Try.ntmps83;go_wp2;go_ret;exact ⟨zt,zz⟩
 ·rw [if_neg c4] at H;have c4b0:decide (a1≤a0)=false:=decide_eq_false c4;clear c4;obtain rfl:=Option.some.inj H;go_enter Try.func83,Try.ntmps83;go_wp2;go_ret;exact ⟨zt,zz⟩
mutual
def spec_IsMatrix.j0 : Nat → List (List Int) → Int → Bool → Option (Bool)
 | 0, _, _, _ => none
 | k + 1, x0, x1, x14 => if x14 = true then (some false) else (spec_IsMatrix.l0 k x0 x1 0)
def spec_IsMatrix.l0 : Nat → List (List Int) → Int → Int → Option (Bool)
 | 0, _, _, _ => none
 | k + 1, x0, x1, x5 => if x5 < (x0.length : Int) then (if 0 ≤ x5 then (if ((rd_L1 x0 x5).length : Int) = x1 then (spec_IsMatrix.l1 k x0 x1 x5 0) else (some false)) else (none)) else (some true)
def spec_IsMatrix.l1 : Nat → List (List Int) → Int → Int → Int → Option (Bool)
 | 0, _, _, _, _ => none
 | k + 1, x0, x1, x5, x6 => if x6 < x1 then (if 0 ≤ x5 then (if x5 < (x0.length : Int) then (if 0 ≤ x6 then (if x6 < ((rd_L1 x0 x5).length : Int) then ((spec_l1In.f (rd (rd_L1 x0 x5) x6) (-2) 2).bind fun t153 => (if t153 = true then (spec_IsMatrix.l1 k x0 x1 x5 (wrap64 (x6 + 1))) else (some false))) else (none)) else (none)) else (none)) else (none)) else (spec_IsMatrix.l0 k x0 x1 (wrap64 (x5 + 1)))
end
def spec_IsMatrix.f (k : Nat) (l0 : List (List Int)) (a1 : Int) : Option (Bool) := (spec_l1In.f a1 1 6).bind fun t149 => (if t149 = true then (spec_IsMatrix.j0 k l0 a1 (decide ((l0.length : Int) > 12))) else (spec_IsMatrix.j0 k l0 a1 true))
set_option maxHeartbeats 8000000 in
set_option maxRecDepth 100000 in
theorem spec_IsMatrix.calls (k : Nat) (A0 : Option Addr) (c0 : Nat) (l0 : List (List Int)) (a1 : Int) (r : Bool) (w : World) (hr0 : Kd.C (Kd.slice 3 (Kd.int .i64)) w A0 l0.length l0) (hc0 : l0.length ≤ c0) (h : spec_IsMatrix.f k l0 a1 = some r) :
 Calls Try.prog 41 #[.slice A0 l0.length c0, .int .i64 a1] w fun e w' => e = .returned (.bool r) ∧ Drawn0 w w' := by
 have HR0:=aM hr0;have HC0:=aM hc0;clear hr0 hc0;have H:((spec_l1In.f a1 1 6).bind fun t149=>(if t149=true then (spec_IsMatrix.j0 k l0 a1 (decide ((l0.length:Int) > 12))) else (spec_IsMatrix.j0 k l0 a1 true)))=some r:=h;clear h;have HC3:=aM H;clear H;go_enter Try.func41,Try.ntmps41;go_upto_region 1 with (fail)
 go_cut [14] (fun v14 wc=>∃(kq:Nat) (x14_2:Bool),v14 = .bool x14_2∧Aside0 (spec_IsMatrix.j0 kq l0 a1 x14_2=some r)∧Aside0 (kq≤k)∧Drawn0 w wc)
 case first=>
  have H:=HC3.out;clear HC3;obtain ⟨t149,A4,H⟩:=bz H;by_cases c5:t149=true
  ·subst c5;replace H:=ifT H;have H':=aM H;clear H;go_wp2_with (first|((with_reducible refine gate_callee (f:=83) rfl ?_);refine gm (some 8) Try.func83 #[.int .i64 a1,.int .i64 1,.int .i64 6] ?_;(with_reducible refine (spec_l1In.calls a1 1 6 true _ A4.out).mono ?_);rintro e w' ⟨rfl,⟨nd,rfl⟩⟩;refine ⟨_,rfl,?_⟩));go_meet;(case rel=>exact ⟨_,(decide ((l0.length:Int) > 12)),zt,H',⟨by first|omega|exact Nat.le_refl _⟩,by repeat (first|exact Drawn0.refl _|apply Drawn0.step)⟩)
  ·replace c5:=Bool.eq_false_iff.mpr c5;subst c5;replace H:=ifF H;have H':=aM H;clear H;go_wp2_with (first|((with_reducible refine gate_callee (f:=83) rfl ?_);refine gm (some 8) Try.func83 #[.int .i64 a1,.int .i64 1,.int .i64 6] ?_;(with_reducible refine (spec_l1In.calls a1 1 6 false _ A4.out).mono ?_);rintro e w' ⟨rfl,⟨nd,rfl⟩⟩;refine ⟨_,rfl,?_⟩));go_meet;(case rel=>exact ⟨_,(true),zt,H',⟨by first|omega|exact Nat.le_refl _⟩,by repeat (first|exact Drawn0.refl _|apply Drawn0.step)⟩)
 case rest=>
  clear HC3;(try clear p2);(try clear c4);(try clear c5);obtain ⟨kq,x14_2,rfl,HA,HJ2,⟨mc2,rfl⟩⟩:=hcut;cases kq with
  | zero=>exact absurd HA.out (by simp [spec_IsMatrix.j0])
  | succ kj2=>
   have H:=HA.out;clear HA;simp only [spec_IsMatrix.j0] at H;by_cases c6:x14_2=true
   ·subst c6;replace H:=ifT H;obtain rfl:=Option.some.inj H;go_wp2;go_ret;exact ⟨zt,zz⟩
   ·replace c6:=Bool.eq_false_iff.mpr c6;subst c6;replace H:=ifF H;have H':=aM H;clear H;go_wp2;go_loopg [5] kj2 (fun kq v5 w'=>∃(x5_2:Int),v5 = .int .i64 x5_2∧Aside0 (spec_IsMatrix.l0 kq l0 a1 x5_2=some r)∧Aside0 (kq≤kj2)∧Drawn0 w w');(case atStart=>exact ⟨(0),zt,H',⟨Nat.le_refl _⟩,by repeat (first|exact Drawn0.refl _|apply Drawn0.step)⟩)
    case round=>
     clear H';(try clear c2);(try clear p2);(try clear c4);(try clear c5);(try clear c6);(try clear p2);obtain ⟨x5_2,rfl,HA,HK2,⟨m2,rfl⟩⟩:=hrel;cases gk with
     | zero=>exact absurd HA.out (by simp [spec_IsMatrix.l0])
     | succ k2=>
      have H:=HA.out;clear HA;simp only [spec_IsMatrix.l0] at H;by_cases c7:x5_2<(l0.length:Int)
      ·rw [if_pos c7] at H;have c7b0:decide (x5_2<(l0.length:Int))=true:=decide_eq_true c7;clear c7;obtain ⟨c8b0,H⟩:=iN H;by_cases c9:((rd_L1 l0 x5_2).length:Int)=a1
       ·rw [if_pos c9] at H;have c9b0:(((rd_L1 l0 x5_2).length:Int) == a1)=true:=beq_iff_eq.mpr c9;have c9b1:(((rd_L1 l0 x5_2).length:Int) != a1)=false:=bne_eq_false_iff_eq.mpr c9;clear c9;have H':=aM H;clear H;have p150:0≤(x5_2:Int):=zd;have q150:x5_2<(l0.length:Int):=zd;obtain ⟨ad150,A150_0,c150_0,e150,hx150_0,hl150_0,hi150_0⟩:=at_L1 HR0.out x5_2 p150 q150;cases e150;have HR150_0:=aM hi150_0;have HC150_0:=aM hl150_0;clear hi150_0 hl150_0;replace p150:=eq_true p150;replace q150:=eq_true q150;go_wp2;go_loopg [6] k2 (fun kq v6 w'=>∃(x6_3:Int),v6 = .int .i64 x6_3∧Aside0 (spec_IsMatrix.l1 kq l0 a1 x5_2 x6_3=some r)∧Aside0 (kq≤k2)∧Drawn0 w w');(case atStart=>exact ⟨(0),zt,H',⟨Nat.le_refl _⟩,by repeat (first|exact Drawn0.refl _|apply Drawn0.step)⟩)
        case round=>
         clear H';(try clear c1);(try clear p1);(try clear q1);(try clear hx1);(try clear c2);(try clear p2);(try clear c4);(try clear c5);(try clear c6);(try clear c7);(try clear c7b0);(try clear c8);(try clear c8b0);(try clear c9);(try clear c9b0);(try clear c9b1);(try clear hx150_0);(try clear p150);(try clear p2);(try clear q150);obtain ⟨x6_3,rfl,HA,HK3,⟨m3,rfl⟩⟩:=hrel;cases gk with
         | zero=>exact absurd HA.out (by simp [spec_IsMatrix.l1])
         | succ k3=>
          have H:=HA.out;clear HA;simp only [spec_IsMatrix.l1] at H;by_cases c10:x6_3<a1
          ·rw [if_pos c10] at H;have c10b0:decide (x6_3<a1)=true:=decide_eq_true c10;clear c10;obtain ⟨c11b0,H⟩:=iN H;obtain ⟨c12b0,H⟩:=iN H;obtain ⟨c13b0,H⟩:=iN H;obtain ⟨c14b0,H⟩:=iN H;obtain ⟨t153,A15,H⟩:=bz H;by_cases c16:t153=true
           ·subst c16;replace H:=ifT H;have H':=aM H;clear H;have p151:0≤(x5_2:Int):=zd;have q151:x5_2<(l0.length:Int):=zd;obtain ⟨ad151,A151_0,c151_0,e151,hx151_0,hl151_0,hi151_0⟩:=at_L1 HR0.out x5_2 p151 q151;obtain rfl:ad150=ad151:=(by injection e151);have HR151_0:=aM hi151_0;have HC151_0:=aM hl151_0;clear hi151_0 hl151_0;replace p151:=eq_true p151;replace q151:=eq_true q151;have p152:0≤(x6_3:Int):=zd;have q152:x6_3<((rd_L1 l0 x5_2).length:Int):=zd;obtain ⟨ad152,e152,hx152_0⟩:=Kd.at_int HR151_0.out x6_3 p152 q152;cases e152;replace p152:=eq_true p152;replace q152:=eq_true q152;go_wp2_with (first|((with_reducible refine gate_callee (f:=83) rfl ?_);refine gm (some 40) Try.func83 #[.int .i64 (rd (rd_L1 l0 x5_2) x6_3),.int .i64 (-2),.int .i64 2] ?_;(with_reducible refine (spec_l1In.calls (rd (rd_L1 l0 x5_2) x6_3) (-2) 2 true _ A15.out).mono ?_);rintro e w' ⟨rfl,⟨nd,rfl⟩⟩;refine ⟨_,rfl,?_⟩));go_roundg k3;(case measure=>have:=HJ2.out;have:=HK2.out;have:=HK3.out;omega);(case rel=>exact ⟨(wrap64 (x6_3+1)),zt,H',⟨by have:=HJ2.out;have:=HK2.out;have:=HK3.out;omega⟩,by repeat (first|exact Drawn0.refl _|apply Drawn0.step)⟩)
           ·replace c16:=Bool.eq_false_iff.mpr c16;subst c16;replace H:=ifF H;obtain rfl:=Option.some.inj H;have p151:0≤(x5_2:Int):=zd;have q151:x5_2<(l0.length:Int):=zd;obtain ⟨ad151,A151_0,c151_0,e151,hx151_0,hl151_0,hi151_0⟩:=at_L1 HR0.out x5_2 p151 q151;obtain rfl:ad150=ad151:=(by injection e151);have HR151_0:=aM hi151_0;have HC151_0:=aM hl151_0;clear hi151_0 hl151_0;replace p151:=eq_true p151;replace q151:=eq_true q151;have p152:0≤(x6_3:Int):=zd;have q152:x6_3<((rd_L1 l0 x5_2).length:Int):=zd;obtain ⟨ad152,e152,hx152_0⟩:=Kd.at_int HR151_0.out x6_3 p152 q152;cases e152;replace p152:=eq_true p152;replace q152:=eq_true q152;go_wp2_with (first|((with_reducible refine gate_callee (f:=83) rfl ?_);refine gm (some 40) Try.func83 #[.int .i64 (rd (rd_L1 l0 x5_2) x6_3),.int .i64 (-2),.int .i64 2] ?_;(with_reducible refine (spec_l1In.calls (rd (rd_L1 l0 x5_2) x6_3) (-2) 2 false _ A15.out).mono ?_);rintro e w' ⟨rfl,⟨nd,rfl⟩⟩;refine ⟨_,rfl,?_⟩));go_ret;exact ⟨zt,zz⟩
          ·rw [if_neg c10] at H;have c10b0:decide (x6_3<a1)=false:=decide_eq_false c10;clear c10;have H':=aM H;clear H;go_wp2;go_roundg k3;(case measure=>have:=HJ2.out;have:=HK2.out;have:=HK3.out;omega);(case rel=>exact ⟨(wrap64 (x5_2+1)),zt,H',⟨by have:=HJ2.out;have:=HK2.out;have:=HK3.out;omega⟩,by repeat (first|exact Drawn0.refl _|apply Drawn0.step)⟩)
       ·rw [if_neg c9] at H;have c9b0:(((rd_L1 l0 x5_2).length:Int) == a1)=false:=beq_eq_false_iff_ne.mpr c9;have c9b1:(((rd_L1 l0 x5_2).length:Int) != a1)=true:=bne_iff_ne.mpr c9;obtain rfl:=Option.some.inj H;have p150:0≤(x5_2:Int):=zd;have q150:x5_2<(l0.length:Int):=zd;obtain ⟨ad150,A150_0,c150_0,e150,hx150_0,hl150_0,hi150_0⟩:=at_L1 HR0.out x5_2 p150 q150;cases e150;have HR150_0:=aM hi150_0;have HC150_0:=aM hl150_0;clear hi150_0 hl150_0;replace p150:=eq_true p150;replace q150:=eq_true q150;go_wp2;go_ret;exact ⟨zt,zz⟩
      ·rw [if_neg c7] at H;have c7b0:decide (x5_2<(l0.length:Int))=false:=decide_eq_false c7;clear c7;obtain rfl:=Option.some.inj H;go_wp2;go_ret;exact ⟨zt,zz⟩
def spec_l5Lead.l0 : Nat → List Int → Int → Option (Int)
 | 0, _, _ => none
 | k + 1, x0, x3 => if x3 < (x0.length : Int) then (if 0 ≤ x3 then (if (rd x0 x3) = 0 then (spec_l5Lead.l0 k x0 (wrap64 (x3 + 1))) else (some x3)) else (none)) else (some (x0.length : Int))
def spec_l5Lead.f (k : Nat) (l0 : List Int) : Option (Int) := spec_l5Lead.l0 k l0 0
set_option maxHeartbeats 8000000 in
set_option maxRecDepth 100000 in
theorem spec_l5Lead.calls (k : Nat) (A0 : Option Addr) (c0 : Nat) (l0 : List Int) (r : Int) (w : World) (hr0 : Kd.C (Kd.int .i64) w A0 l0.length l0) (hc0 : l0.length ≤ c0) (h : spec_l5Lead.f k l0 = some r) :
 Calls Try.prog 69 #[.slice A0 l0.length c0] w fun e w' => e = .returned (.int .i64 r) ∧ Drawn0 w w' := by
 have HR0:=aM hr0;have HC0:=aM hc0;clear hr0 hc0;have H:(spec_l5Lead.l0 k l0 0)=some r:=h;clear h;have H':=aM H;clear H;go_enter Try.func69,Try.ntmps69;go_wp2;go_loopg [3] k (fun kq v3 w'=>∃(x3_1:Int),v3 = .int .i64 x3_1∧Aside0 (spec_l5Lead.l0 kq l0 x3_1=some r)∧Aside0 (kq≤k)∧Drawn0 w w');(case atStart=>exact ⟨(0),zt,H',⟨Nat.le_refl _⟩,by repeat (first|exact Drawn0.refl _|apply Drawn0.step)⟩)
 case round=>
  clear H';obtain ⟨x3_1,rfl,HA,HK1,⟨m1,rfl⟩⟩:=hrel;cases gk with
  | zero=>exact absurd HA.out (by simp [spec_l5Lead.l0])
  | succ k1=>
   have H:=HA.out;clear HA;simp only [spec_l5Lead.l0] at H;by_cases c2:x3_1<(l0.length:Int)
   ·rw [if_pos c2] at H;have c2b0:decide (x3_1<(l0.length:Int))=true:=decide_eq_true c2;clear c2;obtain ⟨c3b0,H⟩:=iN H;by_cases c4:(rd l0 x3_1)=0
    ·rw [if_pos c4] at H;have c4b0:((rd l0 x3_1) == 0)=true:=beq_iff_eq.mpr c4;have c4b1:((rd l0 x3_1) != 0)=false:=bne_eq_false_iff_eq.mpr c4;clear c4;have H':=aM H;clear H;have p154:0≤(x3_1:Int):=zd;have q154:x3_1<(l0.length:Int):=zd;obtain ⟨ad154,e154,hx154_0⟩:=Kd.at_int HR0.out x3_1 p154 q154;cases e154;replace p154:=eq_true p154;replace q154:=eq_true q154;go_wp2;go_roundg k1;(case measure=>have:=HK1.out;omega);(case rel=>exact ⟨(wrap64 (x3_1+1)),zt,H',⟨by have:=HK1.out;omega⟩,by repeat (first|exact Drawn0.refl _|apply Drawn0.step)⟩)
    ·rw [if_neg c4] at H;have c4b0:((rd l0 x3_1) == 0)=false:=beq_eq_false_iff_ne.mpr c4;have c4b1:((rd l0 x3_1) != 0)=true:=bne_iff_ne.mpr c4;obtain rfl:=Option.some.inj H;have p154:0≤(x3_1:Int):=zd;have q154:x3_1<(l0.length:Int):=zd;obtain ⟨ad154,e154,hx154_0⟩:=Kd.at_int HR0.out x3_1 p154 q154;cases e154;replace p154:=eq_true p154;replace q154:=eq_true q154;go_wp2;go_ret;exact ⟨zt,zz⟩
   ·rw [if_neg c2] at H;have c2b0:decide (x3_1<(l0.length:Int))=false:=decide_eq_false c2;clear c2;obtain rfl:=Option.some.inj H;go_wp2;go_ret;exact ⟨zt,zz⟩
def spec_Max.f (a0 : Int) (a1 : Int) : Option (Int) := if a1 > a0 then (some a1) else (some a0)
set_option maxHeartbeats 8000000 in
set_option maxRecDepth 100000 in
theorem spec_Max.calls (a0 : Int) (a1 : Int) (r : Int) (w : World) (h : spec_Max.f a0 a1 = some r) :
 Calls Try.prog 110 #[.int .i64 a0, .int .i64 a1] w fun e w' => e = .returned (.int .i64 r) ∧ Drawn0 w w' := by
 have H:(if a1 > a0 then (some a1) else (some a0))=some r:=h;clear h;by_cases c3:a1 > a0
 ·rw [if_pos c3] at H;have c3b0:decide (a0<a1)=true:=decide_eq_true c3;clear c3;obtain rfl:=Option.some.inj H;go_enter Try.func110,Try.ntmps110;go_wp2;go_ret;exact ⟨zt,zz⟩
 ·rw [if_neg c3] at H;have c3b0:decide (a0<a1)=false:=decide_eq_false c3;clear c3;obtain rfl:=Option.some.inj H;go_enter Try.func110,Try.ntmps110;go_wp2;go_ret;exact ⟨zt,zz⟩
def spec_l4Gcd.l0 : Nat → Int → Int → Option (Int)
 | 0, _, _ => none
 | k + 1, x0, x1 => if x1 > 0 then (if x1 = 0 then (none) else (spec_l4Gcd.l0 k x1 (Int.tmod x0 x1))) else (some x0)
def spec_l4Gcd.f (k : Nat) (a0 : Int) (a1 : Int) : Option (Int) := (spec_Max.f a0 (wrap64 (-a0))).bind fun t155 => ((spec_Max.f a1 (wrap64 (-a1))).bind fun t156 => (spec_l4Gcd.l0 k t155 t156))
set_option maxHeartbeats 8000000 in
set_option maxRecDepth 100000 in
theorem spec_l4Gcd.calls (k : Nat) (a0 : Int) (a1 : Int) (r : Int) (w : World) (h : spec_l4Gcd.f k a0 a1 = some r) :
 Calls Try.prog 102 #[.int .i64 a0, .int .i64 a1] w fun e w' => e = .returned (.int .i64 r) ∧ Drawn0 w w' := by
 have H:((spec_Max.f a0 (wrap64 (-a0))).bind fun t155=>((spec_Max.f a1 (wrap64 (-a1))).bind fun t156=>(spec_l4Gcd.l0 k t155 t156)))=some r:=h;clear h;obtain ⟨t155,A3,H⟩:=bz H;obtain ⟨t156,A4,H⟩:=bz H;have H':=aM H;clear H;go_enter Try.func102,Try.ntmps102;go_wp2_with (first|((with_reducible refine gate_callee (f:=110) rfl ?_);refine gm (some 9) Try.func110 #[.int .i64 a0,.int .i64 (wrap64 (-a0))] ?_;(with_reducible refine (spec_Max.calls a0 (wrap64 (-a0)) t155 _ A3.out).mono ?_);rintro e w' ⟨rfl,⟨nd,rfl⟩⟩;refine ⟨_,rfl,?_⟩)|((with_reducible refine gate_callee (f:=110) rfl ?_);refine gm (some 13) Try.func110 #[.int .i64 a1,.int .i64 (wrap64 (-a1))] ?_;(with_reducible refine (spec_Max.calls a1 (wrap64 (-a1)) t156 _ A4.out).mono ?_);rintro e w' ⟨rfl,⟨nd,rfl⟩⟩;refine ⟨_,rfl,?_⟩));go_loopg [0,1] k (fun kq v0 v1 w'=>∃(x0_1:Int) (x1_1:Int),v0 = .int .i64 x0_1∧v1 = .int .i64 x1_1∧Aside0 (spec_l4Gcd.l0 kq x0_1 x1_1=some r)∧Aside0 (kq≤k)∧Drawn0 w w');(case atStart=>exact ⟨(t155),(t156),zt,zt,H',⟨Nat.le_refl _⟩,by repeat (first|exact Drawn0.refl _|apply Drawn0.step)⟩)
 case round=>
  clear H';(try clear c1);(try clear p2);obtain ⟨x0_1,x1_1,rfl,rfl,HA,HK1,⟨m1,rfl⟩⟩:=hrel;cases gk with
  | zero=>exact absurd HA.out (by simp [spec_l4Gcd.l0])
  | succ k1=>
   have H:=HA.out;clear HA;simp only [spec_l4Gcd.l0] at H;by_cases c5:x1_1 > 0
   ·rw [if_pos c5] at H;have c5b0:decide (0<x1_1)=true:=decide_eq_true c5;clear c5;by_cases c6:x1_1=0
    ·rw [if_pos c6] at H;exact absurd H (by simp)
    ·rw [if_neg c6] at H;have c6b0:(x1_1 == 0)=false:=beq_eq_false_iff_ne.mpr c6;have c6b1:(x1_1 != 0)=true:=bne_iff_ne.mpr c6;have H':=aM H;clear H;go_wp2;go_roundg k1;(case measure=>have:=HK1.out;omega);(case rel=>exact ⟨(x1_1),(Int.tmod x0_1 x1_1),zt,zt,H',⟨by have:=HK1.out;omega⟩,by repeat (first|exact Drawn0.refl _|apply Drawn0.step)⟩)
   ·rw [if_neg c5] at H;have c5b0:decide (0<x1_1)=false:=decide_eq_false c5;clear c5;obtain rfl:=Option.some.inj H;go_wp2;go_ret;exact ⟨zt,zz⟩
end Go.Proofs.Ytojkepidkmkmpaa.PFnSpan
end
section
namespace Go.Proofs.Ytojkepidkmkmpaa.PFnSpan
open Go.Proofs.YtojkepidkmkmpaaW.PrintWords.Aside0 renaming mk → aM
open List renaming setIfInBounds_toArray → qa, set_cons_zero → qz, set_cons_succ → qs
open Bool renaming true → tt, false → ff
open Option renaming bind_eq_some_iff → bE

open Go.RowKit Go.Proofs.YtojkepidkmkmpaaW.PrintWords Go.Proofs.YtojkepidkmkmpaaW.PrintLast Go.Proofs.YtojkepidkmkmpaaW.PrintMore
attribute [local go_sem] max2_int min2_int max_two min_two max_three min_three max_four min_four
set_option linter.unusedVariables false
set_option linter.unusedSimpArgs false
mutual
def spec_l5Tidy.l0 : Nat → List Int → Int → Int → Option (List Int)
 | 0, _, _, _ => none
 | k + 1, x0, x3, x4 => if x4 < (x0.length : Int) then (if 0 ≤ x4 then ((spec_l4Gcd.f k x3 (rd x0 x4)).bind fun t158 => (spec_l5Tidy.l0 k x0 t158 (wrap64 (x4 + 1)))) else (none)) else ((some (([] : List Int) : List Int)).bind fun y159 => (if y159.length + x0.length < 17592186044416 then ((some (y159 ++ x0 : List Int)).bind fun y162 => ((spec_l5Lead.f k x0).bind fun t165 => (if t165 = (x0.length : Int) then (some y162) else (if 0 ≤ t165 then (if t165 < (x0.length : Int) then (if (rd x0 t165) < 0 then (spec_l5Tidy.j1 k (wrap64 (-x3)) y162) else (spec_l5Tidy.j1 k x3 y162)) else (none)) else (none))))) else (none)))
def spec_l5Tidy.j1 : Nat → Int → List Int → Option (List Int)
 | 0, _, _ => none
 | k + 1, x3, x5 => spec_l5Tidy.l1 k x3 x5 0
def spec_l5Tidy.l1 : Nat → Int → List Int → Int → Option (List Int)
 | 0, _, _, _ => none
 | k + 1, x3, x5, x7 => if x7 < (x5.length : Int) then (if 0 ≤ x7 then (if x3 = 0 then (none) else (spec_l5Tidy.l1 k x3 (x5.set (x7 : Int).toNat (wrap64 (Int.tdiv (rd x5 x7) x3))) (wrap64 (x7 + 1)))) else (none)) else (some x5)
end
def spec_l5Tidy.f (k : Nat) (l0 : List Int) : Option (List Int) := spec_l5Tidy.l0 k l0 0 0
set_option maxHeartbeats 8000000 in
set_option maxRecDepth 100000 in
theorem spec_l5Tidy.calls (k : Nat) (A0 : Option Addr) (c0 : Nat) (l0 : List Int) (r : List Int) (w : World) (hr0 : Kd.C (Kd.int .i64) w A0 l0.length l0) (hc0 : l0.length ≤ c0) (h : spec_l5Tidy.f k l0 = some r) :
 Calls Try.prog 109 #[.slice A0 l0.length c0] w fun e w' => ∃ v0_ : Value, e = .returned (v0_) ∧ Kd.R (Kd.int .i64) 3 w' w.heap.size (fun _ => True) v0_ r ∧ Below w.heap.size w w' := by
 have HR0:=aM hr0;have HC0:=aM hc0;clear hr0 hc0;have HB:=aM (Below.refl w.heap.size w);have H:(spec_l5Tidy.l0 k l0 0 0)=some r:=h;clear h;have H':=aM H;clear H;go_enter Try.func109,Try.ntmps109;go_wp2;go_loopg [3,4] k (fun kq v3 v4 w'=>∃(x3_1:Int) (x4_1:Int),v3 = .int .i64 x3_1∧v4 = .int .i64 x4_1∧Aside0 (spec_l5Tidy.l0 kq l0 x3_1 x4_1=some r)∧Aside0 (kq≤k)∧Aside0 (Below w.heap.size w w'));(case atStart=>exact ⟨(0),(0),zt,zt,H',⟨Nat.le_refl _⟩,⟨zb HB.out⟩⟩)
 case round=>
  clear H';(try clear c1);obtain ⟨x3_1,x4_1,rfl,rfl,HA,HK1,HB⟩:=hrel;cases gk with
  | zero=>exact absurd HA.out (by simp [spec_l5Tidy.l0])
  | succ k1=>
   have H:=HA.out;clear HA;simp only [spec_l5Tidy.l0] at H;by_cases c2:x4_1<(l0.length:Int)
   ·rw [if_pos c2] at H;have c2b0:decide (x4_1<(l0.length:Int))=true:=decide_eq_true c2;clear c2;obtain ⟨c3b0,H⟩:=iN H;obtain ⟨t158,A4,H⟩:=bz H;have H':=aM H;clear H;have p157:0≤(x4_1:Int):=zd;have q157:x4_1<(l0.length:Int):=zd;obtain ⟨ad157,e157,hx157_0⟩:=Kd.at_int HR0.out x4_1 p157 q157;cases e157;replace hx157_0:=(HB.out.cell (World.block_lt_of_cell? w _ hx157_0)).trans hx157_0;replace p157:=eq_true p157;replace q157:=eq_true q157;go_wp2_with (first|((with_reducible refine gate_callee (f:=102) rfl ?_);refine gm (some 19) Try.func102 #[.int .i64 x3_1,.int .i64 (rd l0 x4_1)] ?_;(with_reducible refine (spec_l4Gcd.calls k1 x3_1 (rd l0 x4_1) t158 _ A4.out).mono ?_);rintro e w' ⟨rfl,⟨nd,rfl⟩⟩;refine ⟨_,rfl,?_⟩));go_roundg k1;(case measure=>have:=HK1.out;omega);(case rel=>exact ⟨(t158),(wrap64 (x4_1+1)),zt,zt,H',⟨by have:=HK1.out;omega⟩,⟨zb HB.out⟩⟩)
   ·rw [if_neg c2] at H;have c2b0:decide (x4_1<(l0.length:Int))=false:=decide_eq_false c2;clear c2;obtain ⟨y159,hy159⟩:∃y_:List Int,y_=(([]:List Int)):=⟨_,rfl⟩;replace H:(if y159.length+l0.length<17592186044416 then ((some (y159 ++ l0:List Int)).bind fun y162=>((spec_l5Lead.f k1 l0).bind fun t165=>(if t165=(l0.length:Int) then (some y162) else (if 0≤t165 then (if t165<(l0.length:Int) then (if (rd l0 t165)<0 then (spec_l5Tidy.j1 k1 (wrap64 (-x3_1)) y162) else (spec_l5Tidy.j1 k1 x3_1 y162)) else (none)) else (none))))) else (none))=some r:=(by first|(rw [hy159];with_reducible exact H)|(have H2_:=(Option.bind_some _ _).symm.trans H;rw [hy159];with_reducible exact H2_)|(have H2_:=(Option.bind_some _ _).symm.trans H;with_reducible exact H2_)|with_reducible exact H|(rw [hy159];exact H)|exact H);have Ny159:=aM hy159;clear hy159;by_cases c5:y159.length+l0.length<17592186044416
    ·rw [if_pos c5] at H;have LMc5:=aM c5;clear c5;obtain ⟨y162,hy162⟩:∃y_:List Int,y_=(y159 ++ l0):=⟨_,rfl⟩;replace H:((spec_l5Lead.f k1 l0).bind fun t165=>(if t165=(l0.length:Int) then (some y162) else (if 0≤t165 then (if t165<(l0.length:Int) then (if (rd l0 t165)<0 then (spec_l5Tidy.j1 k1 (wrap64 (-x3_1)) y162) else (spec_l5Tidy.j1 k1 x3_1 y162)) else (none)) else (none))))=some r:=(by first|(rw [hy162];with_reducible exact H)|(have H2_:=(Option.bind_some _ _).symm.trans H;rw [hy162];with_reducible exact H2_)|(have H2_:=(Option.bind_some _ _).symm.trans H;with_reducible exact H2_)|with_reducible exact H|(rw [hy162];exact H)|exact H);have Ny162:=aM hy162;clear hy162;obtain ⟨t165,A6,H⟩:=bz H;by_cases c7:t165=(l0.length:Int)
     ·rw [if_pos c7] at H;have c7b0:(t165 == (l0.length:Int))=true:=beq_iff_eq.mpr c7;have c7b1:(t165 != (l0.length:Int))=false:=bne_eq_false_iff_eq.mpr c7;clear c7;obtain rfl:=Option.some.inj H;go_wp2_with (first|((with_reducible refine gate_dst (N:=20) rfl ?_);refine Kd.R_lit (Kd.int .i64) _ 3 ?hg (N:=20) ?hd (xs:=([]:List Int)) (inner:=[]) (ok:=fun _=>True) (okp:=fun _=>True) ?hr ?hp (fun _ hk=>hk) trivial (Below.refl _ _) (Nat.le_refl _) (by simp) ?_;(case hd=>rfl);(case hg=>rfl);(case hr=>first|(go_simp;done)|(go_simp;rfl));(case hp=>exact (Reps.none _ _));intro v160 w8 ho9 hb hg_ hnew_;clear hg_ hnew_;(first|rw [← Ny159.out] at ho9|(simp only [Int.reduceToNat] at ho9;rw [← Ny159.out] at ho9));have HO161:=aM (Kd.R_lower ho9 (below_size (zb HB.out)));replace HB:=aM (below_step (zb HB.out) hb);clear hb ho9)|((with_reducible refine gate_builtin (b:=.append) (xs:=#[.tmp 20,.tmp 21]) rfl ?_);at_builtin;refine Kd.R_append_rows (Kd.int .i64) (w0:=w) w.heap.size rfl (.tmp 20) (.tmp 21) 23 3 (.int .i64 0) 8 rfl Try.underlying23 info3 rfl (by decide) (by omega) v160 y159 l0 _ _ _ (fun _=>True) (fun _=>False) rfl rfl ?aO ?aR (fun _ _ h=>h) (fun _ h=>h.elim) ?aF ?aB ?aS ?aL ?_;(case aR=>exact zc (Kd.C_below HR0.out HB.out));(case aB=>exact (zb HB.out));(case aF=>exact (fun _ _=>trivial));(case aO=>exact (zr HO161.out));(case aS=>exact (below_size (zb HB.out)));(case aL=>have:=LMc5.out;omega);intro v163 w10 ho hb hg hat;rw [← Ny162.out] at ho;replace HB:=aM (hb);have HO164:=aM (ho);clear HO161 ho hb hg hat)|((with_reducible refine gate_callee (f:=69) rfl ?_);refine gm (some 24) Try.func69 #[.slice A0 l0.length c0] ?_;(with_reducible refine (spec_l5Lead.calls k1 _ _ l0 t165 _ ?side1 ?side2 A6.out).mono ?_);(case side1=>exact zc (Kd.C_below HR0.out HB.out));(case side2=>exact HC0.out);rintro e w' ⟨rfl,⟨nd,rfl⟩⟩;refine ⟨_,rfl,?_⟩));go_ret;exact ⟨_,by first|rfl|(simp [errW_none,errW_some]<;>rfl)|(simp [*,errW_none,errW_some]<;>rfl),zr HO164.out,zb HB.out⟩
     ·rw [if_neg c7] at H;have c7b0:(t165 == (l0.length:Int))=false:=beq_eq_false_iff_ne.mpr c7;have c7b1:(t165 != (l0.length:Int))=true:=bne_iff_ne.mpr c7;obtain ⟨c11b0,H⟩:=iN H;obtain ⟨c12b0,H⟩:=iN H;have HC13:=aM H;clear H;go_upto_if 34 with (first|((with_reducible refine gate_dst (N:=20) rfl ?_);refine Kd.R_lit (Kd.int .i64) _ 3 ?hg (N:=20) ?hd (xs:=([]:List Int)) (inner:=[]) (ok:=fun _=>True) (okp:=fun _=>True) ?hr ?hp (fun _ hk=>hk) trivial (Below.refl _ _) (Nat.le_refl _) (by simp) ?_;(case hd=>rfl);(case hg=>rfl);(case hr=>first|(go_simp;done)|(go_simp;rfl));(case hp=>exact (Reps.none _ _));intro v160 w14 ho15 hb hg_ hnew_;clear hg_ hnew_;(first|rw [← Ny159.out] at ho15|(simp only [Int.reduceToNat] at ho15;rw [← Ny159.out] at ho15));have HO161:=aM (Kd.R_lower ho15 (below_size (zb HB.out)));replace HB:=aM (below_step (zb HB.out) hb);clear hb ho15)|((with_reducible refine gate_builtin (b:=.append) (xs:=#[.tmp 20,.tmp 21]) rfl ?_);at_builtin;refine Kd.R_append_rows (Kd.int .i64) (w0:=w) w.heap.size rfl (.tmp 20) (.tmp 21) 23 3 (.int .i64 0) 8 rfl Try.underlying23 info3 rfl (by decide) (by omega) v160 y159 l0 _ _ _ (fun _=>True) (fun _=>False) rfl rfl ?aO ?aR (fun _ _ h=>h) (fun _ h=>h.elim) ?aF ?aB ?aS ?aL ?_;(case aR=>exact zc (Kd.C_below HR0.out HB.out));(case aB=>exact (zb HB.out));(case aF=>exact (fun _ _=>trivial));(case aO=>exact (zr HO161.out));(case aS=>exact (below_size (zb HB.out)));(case aL=>have:=LMc5.out;omega);intro v163 w16 ho hb hg hat;rw [← Ny162.out] at ho;replace HB:=aM (hb);have HO164:=aM (ho);clear HO161 ho hb hg hat)|((with_reducible refine gate_callee (f:=69) rfl ?_);refine gm (some 24) Try.func69 #[.slice A0 l0.length c0] ?_;(with_reducible refine (spec_l5Lead.calls k1 _ _ l0 t165 _ ?side1 ?side2 A6.out).mono ?_);(case side1=>exact zc (Kd.C_below HR0.out HB.out));(case side2=>exact HC0.out);rintro e w' ⟨rfl,⟨nd,rfl⟩⟩;refine ⟨_,rfl,?_⟩;have p166:0≤(t165:Int):=zd;have q166:t165<(l0.length:Int):=zd;obtain ⟨ad166,e166,hx166_0⟩:=Kd.at_int HR0.out t165 p166 q166;cases e166;replace hx166_0:=(HB.out.cell (World.block_lt_of_cell? w _ hx166_0)).trans hx166_0;replace p166:=eq_true p166;replace q166:=eq_true q166))
      (try simp only [Act.put,qa,qz,qs]);go_cut [3] (fun v3 wc=>∃(kq:Nat) (x3_12:Int),v3 = .int .i64 x3_12∧Aside0 (spec_l5Tidy.j1 kq x3_12 y162=some r)∧Aside0 (kq≤k1)∧Aside0 (Kd.R (Kd.int .i64) 3 wc w.heap.size (fun _=>True) v163 y162)∧Aside0 (Below w.heap.size w wc))
      case first=>
       have H:=HC13.out;clear HC13;by_cases c17:(rd l0 t165)<0
       ·rw [if_pos c17] at H;have c17b0:decide ((rd l0 t165)<0)=true:=decide_eq_true c17;clear c17;(first|rw [c17b0]|(simp only [i64_w,i32_w];rw [c17b0])|skip);have H':=aM H;clear H;go_wp2;go_meet;(case rel=>exact ⟨_,(wrap64 (-x3_1)),zt,H',⟨by have:=HK1.out;first|omega|exact Nat.le_refl _⟩,⟨zr HO164.out⟩,⟨zb HB.out⟩⟩)
       ·rw [if_neg c17] at H;have c17b0:decide ((rd l0 t165)<0)=false:=decide_eq_false c17;clear c17;(first|rw [c17b0]|(simp only [i64_w,i32_w];rw [c17b0])|skip);have H':=aM H;clear H;go_wp2;go_meet;(case rel=>exact ⟨_,(x3_1),zt,H',⟨by have:=HK1.out;first|omega|exact Nat.le_refl _⟩,⟨zr HO164.out⟩,⟨zb HB.out⟩⟩)
      case rest=>
       clear HC13;(try clear c1);(try clear p1);(try clear q1);(try clear hx1);(try clear c2);(try clear c2b0);(try clear p2);(try clear c3);(try clear c3b0);(try clear c5);(try clear c6);(try clear p6);(try clear c7);(try clear c7b0);(try clear c7b1);(try clear c10);(try clear c11);(try clear c11b0);(try clear c12);(try clear c12b0);(try clear p15);(try clear q15);(try clear hx15);(try clear p16);(try clear q16);(try clear hx16);(try clear c17);(try clear c17b0);(try clear hx157_0);(try clear hx166_0);(try clear p157);(try clear p166);(try clear q157);(try clear q166);obtain ⟨kq,x3_12,rfl,HA,HJ12,HO_5,HB⟩:=hcut;cases kq with
       | zero=>exact absurd HA.out (by simp [spec_l5Tidy.j1])
       | succ kj12=>
        have H:=HA.out;clear HA;simp only [spec_l5Tidy.j1] at H;have H':=aM H;clear H;go_wp2;go_loopg [7] kj12 (fun kq v7 w'=>∃(x5_3:List Int) (x7_3:Int),v7 = .int .i64 x7_3∧Aside0 (spec_l5Tidy.l1 kq x3_12 x5_3 x7_3=some r)∧Aside0 (kq≤kj12)∧Aside0 (Kd.R (Kd.int .i64) 3 w' w.heap.size (fun _=>True) v163 x5_3)∧Aside0 (Below w.heap.size w w'));(case atStart=>exact ⟨(y162),(0),zt,H',⟨Nat.le_refl _⟩,⟨zr HO_5.out⟩,⟨zb HB.out⟩⟩)
        case round=>
         clear H';(try clear c1);(try clear p1);(try clear q1);(try clear hx1);(try clear c2);(try clear c2b0);(try clear p2);(try clear c3);(try clear c3b0);(try clear c5);(try clear c6);(try clear p6);(try clear c7);(try clear c7b0);(try clear c7b1);(try clear c10);(try clear c11);(try clear c11b0);(try clear c12);(try clear c12b0);(try clear p15);(try clear q15);(try clear hx15);(try clear p16);(try clear q16);(try clear hx16);(try clear c17);(try clear c17b0);(try clear hx157_0);(try clear hx166_0);(try clear p1);(try clear p15);(try clear p157);(try clear p16);(try clear p166);(try clear p2);(try clear p6);(try clear q1);(try clear q15);(try clear q157);(try clear q16);(try clear q166);obtain ⟨x5_3,x7_3,rfl,HA,HK3,HO_5,HB⟩:=hrel;cases gk with
         | zero=>exact absurd HA.out (by simp [spec_l5Tidy.l1])
         | succ k3=>
          have H:=HA.out;clear HA;simp only [spec_l5Tidy.l1] at H;by_cases c18:x7_3<(x5_3.length:Int)
          ·rw [if_pos c18] at H;have c18b0:decide (x7_3<(x5_3.length:Int))=true:=decide_eq_true c18;clear c18;obtain ⟨c19b0,H⟩:=iN H;by_cases c20:x3_12=0
           ·rw [if_pos c20] at H;exact absurd H (by simp)
           ·rw [if_neg c20] at H;have c20b0:(x3_12 == 0)=false:=beq_eq_false_iff_ne.mpr c20;have c20b1:(x3_12 != 0)=true:=bne_iff_ne.mpr c20;obtain ⟨y168,hy168⟩:∃y_:List Int,y_=(x5_3.set (x7_3:Int).toNat (wrap64 (Int.tdiv (rd x5_3 x7_3) x3_12))):=⟨_,rfl⟩;replace H:(spec_l5Tidy.l1 k3 x3_12 y168 (wrap64 (x7_3+1)))=some r:=(by first|(rw [hy168];with_reducible exact H)|(have H2_:=(Option.bind_some _ _).symm.trans H;rw [hy168];with_reducible exact H2_)|(have H2_:=(Option.bind_some _ _).symm.trans H;with_reducible exact H2_)|with_reducible exact H|(rw [hy168];exact H)|exact H);have Ny168:=aM hy168;clear hy168;have H':=aM H;clear H;obtain ⟨Ao22,co22,eo22⟩:=Kd.R_slice HO_5.out;subst eo22;have p167:0≤(x7_3:Int):=zd;have q167:x7_3<(x5_3.length:Int):=zd;obtain ⟨ad167,e167,hx167_0⟩:=Kd.at_int (Kd.R_reads' HO_5.out).2.2 x7_3 p167 q167;cases e167;replace p167:=eq_true p167;replace q167:=eq_true q167;have p21:0≤(x7_3:Int):=zd;have q21:(x7_3:Int)<((x5_3.length:Int):Int):=zd;obtain ⟨go21,co21,eo21,gb21,gl21,cl21,HG21⟩:=Kd.R_form HO_5.out (by omega);(first|cases eo21|(injection eo21 with ea_ en_ ec_;(first|subst ea_|(injection ea_ with ea_;subst ea_));subst ec_;clear en_));have GB21:=aM gb21;have GG21:=aM HG21;clear gb21 gl21 HG21;(first|simp only [add_plain] at hx167_0|skip);obtain ⟨hx21_0,hf21_0⟩:=Kd.R_celln 0 HO_5.out (x7_3:Int) p21 q21;replace p21:=eq_true p21;replace q21:=eq_true q21;have HP23:=Kd.R_putg HO_5.out (x7_3:Int) (wrap64 (Int.tdiv (rd x5_3 x7_3) x3_12));go_wp2_with (first|((with_reducible refine gate_store (t:=3) (p:=51) rfl ?_);refine store_event (t:=3) (p:=51) (v:=?vo_w24) (w1:=(wr.setCell ⟨go21,(x7_3:Int).toNat,none⟩ (.int .i64 (wrap64 (Int.tdiv (rd x5_3 x7_3) x3_12))))) ?hg ?ho ?hn ?hr ?_;(case ho=>rfl);(case hg=>rfl);(case hn=>rfl);(case hr=>first|(go_simp;done)|(go_simp;rfl));intro w24 hw;have hg:wr.grownBy w24 (some go21):=(by rw [hw];exact HP23.2);have hp_:Kd.R (Kd.int .i64) 3 w24 w.heap.size (fun _=>True) (.slice (some ⟨go21,0,none⟩) x5_3.length co22) y168:=(by rw [hw,Ny168.out];exact HP23.1);clear HP23;replace HO_5:=aM (hp_);replace HB:=aM ((by rw [hw];exact below_set (HB.out) GB21.out:Below w.heap.size w w24));clear hg hw hp_));go_roundg k3;(case measure=>have:=HK1.out;have:=HJ12.out;have:=HK3.out;omega);(case rel=>exact ⟨(y168),(wrap64 (x7_3+1)),zt,H',⟨by have:=HK1.out;have:=HJ12.out;have:=HK3.out;omega⟩,⟨zr HO_5.out⟩,⟨zb HB.out⟩⟩)
          ·rw [if_neg c18] at H;have c18b0:decide (x7_3<(x5_3.length:Int))=false:=decide_eq_false c18;clear c18;obtain rfl:=Option.some.inj H;obtain ⟨Ao25,co25,eo25⟩:=Kd.R_slice HO_5.out;subst eo25;go_wp2;go_ret;exact ⟨_,by first|rfl|(simp [errW_none,errW_some]<;>rfl)|(simp [*,errW_none,errW_some]<;>rfl),zr HO_5.out,zb HB.out⟩
    ·rw [if_neg c5] at H;exact absurd H (by simp)
def spec_l5Clear.l0 : Nat → List Int → List Int → Int → List Int → Int → Option (List Int)
 | 0, _, _, _, _, _ => none
 | k + 1, x0, x1, x2, x7, x8 => if x8 < (x0.length : Int) then (if 0 ≤ x8 then (if 0 ≤ x2 then (if x2 < (x1.length : Int) then (if x8 < (x1.length : Int) then (if x2 < (x0.length : Int) then (if x7.length < 17592186044416 then (spec_l5Clear.l0 k x0 x1 x2 (x7 ++ [wrap64 ((wrap64 ((rd x0 x8) * (rd x1 x2))) - (wrap64 ((rd x1 x8) * (rd x0 x2))))]) (wrap64 (x8 + 1))) else (none)) else (none)) else (none)) else (none)) else (none)) else (none)) else ((spec_l5Tidy.f k x7).bind fun t179 => (some t179))
def spec_l5Clear.f (k : Nat) (l0 : List Int) (l1 : List Int) (a2 : Int) : Option (List Int) := spec_l5Clear.l0 k l0 l1 a2 (([] : List Int)) 0
def spec_l5Clear.T5 : Bool × List (List Nat × List Nat) := (true, [([], []), ([], []), ([], []), ([1, 2], [1, 2]), ([3], [3]), ([], []), ([], []), ([5, 6], [5, 6]), ([7], [7]), ([4, 8], [4, 8]), ([], []), ([], []), ([10, 11], [10, 11]), ([12], [12]), ([], []), ([], []), ([14, 15], [14, 15]), ([16], [16]), ([13, 17], [13, 17]), ([9, 18], [9, 18]), ([19], [19]), ([0, 20], [0, 20]), ([21, 21, 0, 1, 2, 3, 4, 5, 6, 7, 8, 9, 10, 11, 12, 13, 14, 15, 16, 17, 18, 19, 20, 21], [0, 21])])
def spec_l5Clear.B5 : List Nat := [0, 0, 0, 6, 14, 0, 0, 96, 224, 510, 0, 0, 3072, 7168, 0, 0, 49152, 114688, 261120, 524286, 1048574, 2097151, 4194303]
theorem spec_l5Clear.tab5 : rtab .any (opsOf Try.f88 5) = spec_l5Clear.T5 := by kernel_rfl
theorem spec_l5Clear.bits5 : waitsOk spec_l5Clear.T5.2 spec_l5Clear.B5 = true := by kernel_rfl
set_option maxHeartbeats 8000000 in
set_option maxRecDepth 100000 in
theorem spec_l5Clear.calls (k : Nat) (A0 : Option Addr) (c0 : Nat) (l0 : List Int) (A1 : Option Addr) (c1 : Nat) (l1 : List Int) (a2 : Int) (r : List Int) (w : World) (hr0 : Kd.C (Kd.int .i64) w A0 l0.length l0) (hc0 : l0.length ≤ c0) (hr1 : Kd.C (Kd.int .i64) w A1 l1.length l1) (hc1 : l1.length ≤ c1) (h : spec_l5Clear.f k l0 l1 a2 = some r) :
 Calls Try.prog 88 #[.slice A0 l0.length c0, .slice A1 l1.length c1, .int .i64 a2] w fun e w' => ∃ v0_ : Value, e = .returned (v0_) ∧ Kd.R (Kd.int .i64) 3 w' w.heap.size (fun _ => True) v0_ r ∧ Below w.heap.size w w' := by
 have HR0:=aM hr0;have HC0:=aM hc0;clear hr0 hc0;have HR1:=aM hr1;have HC1:=aM hc1;clear hr1 hc1;have HB:=aM (Below.refl w.heap.size w);have H:(spec_l5Clear.l0 k l0 l1 a2 (([]:List Int)) 0)=some r:=h;clear h;obtain ⟨y169,hy169⟩:∃y_:List Int,y_=(([]:List Int)):=⟨_,rfl⟩;replace H:(spec_l5Clear.l0 k l0 l1 a2 y169 0)=some r:=(by first|(rw [hy169];with_reducible exact H)|(have H2_:=(Option.bind_some _ _).symm.trans H;rw [hy169];with_reducible exact H2_)|(have H2_:=(Option.bind_some _ _).symm.trans H;with_reducible exact H2_)|with_reducible exact H|(rw [hy169];exact H)|exact H);have Ny169:=aM hy169;clear hy169;have H':=aM H;clear H;go_enter Try.func88,Try.ntmps88;go_wp2_with (first|((with_reducible refine gate_dst (N:=9) rfl ?_);refine Kd.R_lit (Kd.int .i64) _ 3 ?hg (N:=9) ?hd (xs:=([]:List Int)) (inner:=[]) (ok:=fun _=>True) (okp:=fun _=>True) ?hr ?hp (fun _ hk=>hk) trivial (Below.refl _ _) (Nat.le_refl _) (by simp) ?_;(case hd=>rfl);(case hg=>rfl);(case hr=>first|(go_simp;done)|(go_simp;rfl));(case hp=>exact (Reps.none _ _));intro v170 w4 ho5 hb hg_ hnew_;clear hg_ hnew_;(first|rw [← Ny169.out] at ho5|(simp only [Int.reduceToNat] at ho5;rw [← Ny169.out] at ho5));have HO171:=aM (Kd.R_lower ho5 (below_size (zb HB.out)));replace HB:=aM (below_step (zb HB.out) hb);clear hb ho5));go_loopg [7,8] k (fun kq v7 v8 w'=>∃(x7_1:List Int) (x8_1:Int),v8 = .int .i64 x8_1∧Aside0 (spec_l5Clear.l0 kq l0 l1 a2 x7_1 x8_1=some r)∧Aside0 (kq≤k)∧Aside0 (Kd.R (Kd.int .i64) 3 w' w.heap.size (fun _=>True) v7 x7_1)∧Aside0 (Below w.heap.size w w'));(case atStart=>exact ⟨(y169),(0),zt,H',⟨Nat.le_refl _⟩,⟨zr HO171.out⟩,⟨zb HB.out⟩⟩)
 case round=>
  clear H';(try clear c1);(try clear p2);obtain ⟨x7_1,x8_1,rfl,HA,HK1,HO_7,HB⟩:=hrel;cases gk with
  | zero=>exact absurd HA.out (by simp [spec_l5Clear.l0])
  | succ k1=>
   have H:=HA.out;clear HA;simp only [spec_l5Clear.l0] at H;by_cases c6:x8_1<(l0.length:Int)
   ·rw [if_pos c6] at H;have c6b0:decide (x8_1<(l0.length:Int))=true:=decide_eq_true c6;clear c6;obtain ⟨c7b0,H⟩:=iN H;obtain ⟨c8b0,H⟩:=iN H;obtain ⟨c9b0,H⟩:=iN H;obtain ⟨c10b0,H⟩:=iN H;obtain ⟨c11b0,H⟩:=iN H;by_cases c12:x7_1.length<17592186044416
    ·rw [if_pos c12] at H;have LMc12:=aM c12;clear c12;obtain ⟨y176,hy176⟩:∃y_:List Int,y_=(x7_1 ++ [wrap64 ((wrap64 ((rd l0 x8_1)*(rd l1 a2)))-(wrap64 ((rd l1 x8_1)*(rd l0 a2))))]):=⟨_,rfl⟩;replace H:(spec_l5Clear.l0 k1 l0 l1 a2 y176 (wrap64 (x8_1+1)))=some r:=(by first|(rw [hy176];with_reducible exact H)|(have H2_:=(Option.bind_some _ _).symm.trans H;rw [hy176];with_reducible exact H2_)|(have H2_:=(Option.bind_some _ _).symm.trans H;with_reducible exact H2_)|with_reducible exact H|(rw [hy176];exact H)|exact H);have Ny176:=aM hy176;clear hy176;have H':=aM H;clear H;(try go_wp2);replace HO_7:=aM (Kd.R_drew HO_7.out);replace HB:=aM (below_drew1 HB.out);have p172:0≤(x8_1:Int):=zd;have q172:x8_1<(l0.length:Int):=zd;obtain ⟨ad172,e172,hx172_0⟩:=Kd.at_int HR0.out x8_1 p172 q172;have hw172_0:=hx172_0;cases e172;replace hx172_0:=(HB.out.cell (World.block_lt_of_cell? w _ hx172_0)).trans hx172_0;replace p172:=eq_true p172;replace q172:=eq_true q172;have p173:0≤(a2:Int):=zd;have q173:a2<(l1.length:Int):=zd;obtain ⟨ad173,e173,hx173_0⟩:=Kd.at_int HR1.out a2 p173 q173;have hw173_0:=hx173_0;cases e173;replace hx173_0:=(HB.out.cell (World.block_lt_of_cell? w _ hx173_0)).trans hx173_0;replace p173:=eq_true p173;replace q173:=eq_true q173;have p174:0≤(x8_1:Int):=zd;have q174:x8_1<(l1.length:Int):=zd;obtain ⟨ad174,e174,hx174_0⟩:=Kd.at_int HR1.out x8_1 p174 q174;have hw174_0:=hx174_0;obtain rfl:ad173=ad174:=(by injection e174);replace hx174_0:=(HB.out.cell (World.block_lt_of_cell? w _ hx174_0)).trans hx174_0;replace p174:=eq_true p174;replace q174:=eq_true q174;have p175:0≤(a2:Int):=zd;have q175:a2<(l0.length:Int):=zd;obtain ⟨ad175,e175,hx175_0⟩:=Kd.at_int HR0.out a2 p175 q175;have hw175_0:=hx175_0;obtain rfl:ad172=ad175:=(by injection e175);replace hx175_0:=(HB.out.cell (World.block_lt_of_cell? w _ hx175_0)).trans hx175_0;replace p175:=eq_true p175;replace q175:=eq_true q175;refine start_ (n:=23) (S:=fun w'=>w'.cell? (ad172.add (x8_1).toNat)=some (.int .i64 (rd l0 x8_1))∧w'.cell? (ad173.add (a2).toNat)=some (.int .i64 (rd l1 a2))∧w'.cell? (ad173.add (x8_1).toNat)=some (.int .i64 (rd l1 x8_1))∧w'.cell? (ad172.add (a2).toNat)=some (.int .i64 (rd l0 a2))) (ds:=[]) #[ff,ff,ff,ff,ff,ff,ff,ff,ff,ff,ff,ff,ff,ff,ff,ff,ff,ff,ff,ff,ff,ff,ff] (by kernel_rfl) rfl rfl ⟨((HB.out.cell (World.block_lt_of_cell? w _ hw172_0)).trans hw172_0),((HB.out.cell (World.block_lt_of_cell? w _ hw173_0)).trans hw173_0),((HB.out.cell (World.block_lt_of_cell? w _ hw174_0)).trans hw174_0),((HB.out.cell (World.block_lt_of_cell? w _ hw175_0)).trans hw175_0)⟩ (fun hHeld=>?_);refine with_tabW spec_l5Clear.tab5 spec_l5Clear.bits5 (fun HT_ HW_=>?_);generalize wr.drew=w13 at HO_7 HB hx172_0 hx173_0 hx174_0 hx175_0 hHeld ⊢;refine pu 0 (some 16) #[tt,ff,ff,ff,ff,ff,ff,ff,ff,ff,ff,ff,ff,ff,ff,ff,ff,ff,ff,ff,ff,ff,ff] rfl rfl HT_ ?_;refine pu 1 (some 17) #[tt,tt,ff,ff,ff,ff,ff,ff,ff,ff,ff,ff,ff,ff,ff,ff,ff,ff,ff,ff,ff,ff,ff] rfl rfl HT_ ?_;refine pu 2 (some 18) #[tt,tt,tt,ff,ff,ff,ff,ff,ff,ff,ff,ff,ff,ff,ff,ff,ff,ff,ff,ff,ff,ff,ff] rfl rfl HT_ ?_;refine pu 3 (some 19) #[tt,tt,tt,tt,ff,ff,ff,ff,ff,ff,ff,ff,ff,ff,ff,ff,ff,ff,ff,ff,ff,ff,ff] rfl rfl HT_ ?_;refine pu 5 (some 21) #[tt,tt,tt,tt,ff,tt,ff,ff,ff,ff,ff,ff,ff,ff,ff,ff,ff,ff,ff,ff,ff,ff,ff] rfl rfl HT_ ?_;refine pu 6 (some 22) #[tt,tt,tt,tt,ff,tt,tt,ff,ff,ff,ff,ff,ff,ff,ff,ff,ff,ff,ff,ff,ff,ff,ff] rfl rfl HT_ ?_;refine pu 7 (some 23) #[tt,tt,tt,tt,ff,tt,tt,tt,ff,ff,ff,ff,ff,ff,ff,ff,ff,ff,ff,ff,ff,ff,ff] rfl rfl HT_ ?_;refine pu 10 (some 26) #[tt,tt,tt,tt,ff,tt,tt,tt,ff,ff,tt,ff,ff,ff,ff,ff,ff,ff,ff,ff,ff,ff,ff] rfl rfl HT_ ?_;refine pu 11 (some 27) #[tt,tt,tt,tt,ff,tt,tt,tt,ff,ff,tt,tt,ff,ff,ff,ff,ff,ff,ff,ff,ff,ff,ff] rfl rfl HT_ ?_;refine pu 12 (some 28) #[tt,tt,tt,tt,ff,tt,tt,tt,ff,ff,tt,tt,tt,ff,ff,ff,ff,ff,ff,ff,ff,ff,ff] rfl rfl HT_ ?_;refine pu 14 (some 30) #[tt,tt,tt,tt,ff,tt,tt,tt,ff,ff,tt,tt,tt,ff,tt,ff,ff,ff,ff,ff,ff,ff,ff] rfl rfl HT_ ?_;refine pu 15 (some 31) #[tt,tt,tt,tt,ff,tt,tt,tt,ff,ff,tt,tt,tt,ff,tt,tt,ff,ff,ff,ff,ff,ff,ff] rfl rfl HT_ ?_;refine pu 16 (some 32) #[tt,tt,tt,tt,ff,tt,tt,tt,ff,ff,tt,tt,tt,ff,tt,tt,tt,ff,ff,ff,ff,ff,ff] rfl rfl HT_ ?_;refine take_ (i:=4) (N:=some 20) (v:=?_) (a':=?_) #[tt,tt,tt,tt,tt,tt,tt,tt,ff,ff,tt,tt,tt,ff,tt,tt,tt,ff,ff,ff,ff,ff,ff] rfl rfl (take_ofW HT_.out HW_.out (by kernel_rfl)) (fun _ _ _ h=>h) (Or.inl ⟨by rfl,?_⟩) hHeld ?_ ?_;rotate_left
     ·rintro w' ⟨s0,s1,s2,s3⟩;go_simp;(with_reducible rfl)
     rotate_left
     ·simp only [Act.put,qa,qz,qs,i64_w,i32_w];rfl
     refine take_ (i:=8) (N:=some 24) (v:=?_) (a':=?_) #[tt,tt,tt,tt,tt,tt,tt,tt,tt,ff,tt,tt,tt,ff,tt,tt,tt,ff,ff,ff,ff,ff,ff] rfl rfl (take_ofW HT_.out HW_.out (by kernel_rfl)) (fun _ _ _ h=>h) (Or.inl ⟨by rfl,?_⟩) hHeld ?_ ?_;rotate_left
     ·rintro w' ⟨s0,s1,s2,s3⟩;go_simp;(with_reducible rfl)
     rotate_left
     ·simp only [Act.put,qa,qz,qs,i64_w,i32_w];rfl
     refine pu 9 (some 25) #[tt,tt,tt,tt,tt,tt,tt,tt,tt,tt,tt,tt,tt,ff,tt,tt,tt,ff,ff,ff,ff,ff,ff] rfl rfl HT_ ?_;refine take_ (i:=13) (N:=some 29) (v:=?_) (a':=?_) #[tt,tt,tt,tt,tt,tt,tt,tt,tt,tt,tt,tt,tt,tt,tt,tt,tt,ff,ff,ff,ff,ff,ff] rfl rfl (take_ofW HT_.out HW_.out (by kernel_rfl)) (fun _ _ _ h=>h) (Or.inl ⟨by rfl,?_⟩) hHeld ?_ ?_;rotate_left
     ·rintro w' ⟨s0,s1,s2,s3⟩;go_simp;(with_reducible rfl)
     rotate_left
     ·simp only [Act.put,qa,qz,qs,i64_w,i32_w];rfl
     refine take_ (i:=17) (N:=some 33) (v:=?_) (a':=?_) #[tt,tt,tt,tt,tt,tt,tt,tt,tt,tt,tt,tt,tt,tt,tt,tt,tt,tt,ff,ff,ff,ff,ff] rfl rfl (take_ofW HT_.out HW_.out (by kernel_rfl)) (fun _ _ _ h=>h) (Or.inl ⟨by rfl,?_⟩) hHeld ?_ ?_;rotate_left
     ·rintro w' ⟨s0,s1,s2,s3⟩;go_simp;(with_reducible rfl)
     rotate_left
     ·simp only [Act.put,qa,qz,qs,i64_w,i32_w];rfl
     refine pu 18 (some 34) #[tt,tt,tt,tt,tt,tt,tt,tt,tt,tt,tt,tt,tt,tt,tt,tt,tt,tt,tt,ff,ff,ff,ff] rfl rfl HT_ ?_;refine pu 19 (some 35) #[tt,tt,tt,tt,tt,tt,tt,tt,tt,tt,tt,tt,tt,tt,tt,tt,tt,tt,tt,tt,ff,ff,ff] rfl rfl HT_ ?_;refine one_ (i:=20) (N:=some 36) #[tt,tt,tt,tt,tt,tt,tt,tt,tt,tt,tt,tt,tt,tt,tt,tt,tt,tt,tt,tt,tt,ff,ff] rfl rfl (one_of HT_.out (by kernel_rfl)) (by decide) (fun K hK=>?_);refine value_ (w1:=?_) (v:=?_) (by rfl) rfl ?_ ?_;rotate_left 2
     ·go_simp;constructor
      ·rfl
      ·rfl
     refine hK.out _ _ ⟨(World.cell?_alloc_lt _ _ _ (World.block_lt_of_cell? _ _ (((HB.out.cell (World.block_lt_of_cell? w _ hw172_0)).trans hw172_0)))).trans (((HB.out.cell (World.block_lt_of_cell? w _ hw172_0)).trans hw172_0)),(World.cell?_alloc_lt _ _ _ (World.block_lt_of_cell? _ _ (((HB.out.cell (World.block_lt_of_cell? w _ hw173_0)).trans hw173_0)))).trans (((HB.out.cell (World.block_lt_of_cell? w _ hw173_0)).trans hw173_0)),(World.cell?_alloc_lt _ _ _ (World.block_lt_of_cell? _ _ (((HB.out.cell (World.block_lt_of_cell? w _ hw174_0)).trans hw174_0)))).trans (((HB.out.cell (World.block_lt_of_cell? w _ hw174_0)).trans hw174_0)),(World.cell?_alloc_lt _ _ _ (World.block_lt_of_cell? _ _ (((HB.out.cell (World.block_lt_of_cell? w _ hw175_0)).trans hw175_0)))).trans (((HB.out.cell (World.block_lt_of_cell? w _ hw175_0)).trans hw175_0))⟩ (fun hHeld=>?_);clear hK K;refine norm_ (a':=?_) ?_ ?_;rotate_left
     ·show Act.put _ (some 36) _=_;simp only [Act.put,qa,qz,qs,i64_w,i32_w];rfl
     refine one_ (i:=21) (N:=some 37) #[tt,tt,tt,tt,tt,tt,tt,tt,tt,tt,tt,tt,tt,tt,tt,tt,tt,tt,tt,tt,tt,tt,ff] rfl rfl (one_of HT_.out (by kernel_rfl)) (by decide) (fun K hK=>?_);refine Kd.R_append_step (Kd.int .i64) (w0:=w) w.heap.size (by rfl) (.tmp 16) (.tmp 36) 23 3 (.int .i64 0) 8 rfl Try.underlying23 info3 rfl (by decide) (by omega) u7 x7_1 (wrap64 ((wrap64 ((rd l0 x8_1)*(rd l1 a2)))-(wrap64 ((rd l1 x8_1)*(rd l0 a2))))) [.int .i64 (wrap64 ((wrap64 ((rd l0 x8_1)*(rd l1 a2)))-(wrap64 ((rd l1 x8_1)*(rd l0 a2)))))] (fun _=>True) (fun _=>False) rfl rfl ?aP (fun _ hk=>hk.elim) ?aF ?aO ?aB ?aS ?aL ?_;(case aP=>exact rfl);(case aB=>exact (zb HB.out));(case aF=>exact (fun _ _=>trivial));(case aO=>exact (zr HO_7.out));(case aS=>exact (below_size (zb HB.out)));(case aL=>have:=LMc12.out;omega);intro v177 w14 ho hb hg hat;rw [← Ny176.out] at ho;replace HB:=aM (hb);have HO178:=aM (ho);clear HO_7 ho hb hg hat;refine hK.out _ _ ⟨((HB.out.cell (World.block_lt_of_cell? w _ hw172_0)).trans hw172_0),((HB.out.cell (World.block_lt_of_cell? w _ hw173_0)).trans hw173_0),((HB.out.cell (World.block_lt_of_cell? w _ hw174_0)).trans hw174_0),((HB.out.cell (World.block_lt_of_cell? w _ hw175_0)).trans hw175_0)⟩ (fun hHeld=>?_);clear hK K;refine norm_ (a':=?_) ?_ ?_;rotate_left
     ·show Act.put _ (some 37) _=_;simp only [Act.put,qa,qz,qs,i64_w,i32_w];rfl
     refine pu 22 (some 7) #[tt,tt,tt,tt,tt,tt,tt,tt,tt,tt,tt,tt,tt,tt,tt,tt,tt,tt,tt,tt,tt,tt,tt] rfl rfl HT_ ?_;refine done_ (done_of HT_.out (by kernel_rfl)) ?_;(try go_wp2);go_roundg k1;(case measure=>have:=HK1.out;omega);(case rel=>exact ⟨(y176),(wrap64 (x8_1+1)),zt,H',⟨by have:=HK1.out;omega⟩,⟨zr HO178.out⟩,⟨zb HB.out⟩⟩)
    ·rw [if_neg c12] at H;exact absurd H (by simp)
   ·rw [if_neg c6] at H;have c6b0:decide (x8_1<(l0.length:Int))=false:=decide_eq_false c6;clear c6;obtain ⟨t179,A15,H⟩:=bz H;obtain rfl:=Option.some.inj H;obtain ⟨Ao16,co16,eo16⟩:=Kd.R_slice HO_7.out;subst eo16;go_wp2_with (first|((with_reducible refine gate_callee (f:=109) rfl ?_);refine gm (some 39) Try.func109 #[.slice Ao16 x7_1.length co16] ?_;(with_reducible refine (spec_l5Tidy.calls k1 _ _ x7_1 t179 _ ?side1 ?side2 A15.out).mono ?_);(case side1=>exact zc (Kd.R_reads' HO_7.out).2.2);(case side2=>exact (Kd.R_reads' HO_7.out).2.1);rintro e w17 ⟨v180,rfl,ho0,hb⟩;refine ⟨_,rfl,?_⟩;have HO181:=aM (Kd.R_lower (Kd.R_new' ho0 (Kd.R_lt (zr HO_7.out))) (below_size (zb HB.out)));replace HO_7:=aM (Kd.R_elder' (zr HO_7.out) (Kd.R_base ho0) hb);replace HB:=aM (below_step (zb HB.out) hb);(try clear hb);(try clear hb2);(try clear hk);(try clear hi);(try clear ho0)));go_ret;exact ⟨_,by first|rfl|(simp [errW_none,errW_some]<;>rfl)|(simp [*,errW_none,errW_some]<;>rfl),by (with_reducible repeat (first|apply Kd.R_alloc|apply Kd.R_drewN|apply Kd.R_drew));exact Kd.R_mono HO181.out (fun _ hk=>trivial),zb HB.out⟩
end Go.Proofs.Ytojkepidkmkmpaa.PFnSpan
end
section
namespace Go.Proofs.Ytojkepidkmkmpaa.PFnSpan
open Go.Proofs.YtojkepidkmkmpaaW.PrintWords.Aside0 renaming mk → aM
open List renaming setIfInBounds_toArray → qa, set_cons_zero → qz, set_cons_succ → qs
open Bool renaming true → tt, false → ff
open Option renaming bind_eq_some_iff → bE

open Go.RowKit Go.Proofs.YtojkepidkmkmpaaW.PrintWords Go.Proofs.YtojkepidkmkmpaaW.PrintLast Go.Proofs.YtojkepidkmkmpaaW.PrintMore
attribute [local go_sem] max2_int min2_int max_two min_two max_three min_three max_four min_four
set_option linter.unusedVariables false
set_option linter.unusedSimpArgs false
mutual
def spec_l5Reduce.l0 : Nat → List (List Int) → Int → List (List Int) → Int → Option ((List (List Int)))
 | 0, _, _, _, _ => none
 | k + 1, x0, x1, x5, x6 => if x6 < (x0.length : Int) then (if 0 ≤ x6 then ((spec_l5Tidy.f k (rd_L1 x0 x6)).bind fun t186 => (if x5.length < 5864062014805 then (spec_l5Reduce.l0 k x0 x1 (x5 ++ [t186]) (wrap64 (x6 + 1))) else (none))) else (none)) else (spec_l5Reduce.l1 k x1 x5 0 0)
def spec_l5Reduce.l1 : Nat → Int → List (List Int) → Int → Int → Option ((List (List Int)))
 | 0, _, _, _, _ => none
 | k + 1, x1, x5, x7, x8 => if x8 < x1 then (spec_l5Reduce.l2 k x1 x5 x7 x8 x7) else (some x5)
def spec_l5Reduce.j3 : Nat → Int → List (List Int) → Int → Int → Int → Option ((List (List Int)))
 | 0, _, _, _, _, _ => none
 | k + 1, x1, x5, x7, x8, x9 => if x9 = (x5.length : Int) then (spec_l5Reduce.l1 k x1 x5 x7 (wrap64 (x8 + 1))) else (if 0 ≤ x9 then (if x9 < (x5.length : Int) then (if 0 ≤ x7 then (if x7 < (x5.length : Int) then ((spec_l5Tidy.f k (rd_L1 x5 x9)).bind fun t197 => (spec_l5Reduce.l3 k x1 ((x5.set (x9 : Int).toNat (rd_L1 x5 x7)).set (x7 : Int).toNat t197) x7 x8 0)) else (none)) else (none)) else (none)) else (none))
def spec_l5Reduce.l3 : Nat → Int → List (List Int) → Int → Int → Int → Option ((List (List Int)))
 | 0, _, _, _, _, _ => none
 | k + 1, x1, x5, x7, x8, x11 => if x11 < (x5.length : Int) then (if x11 = x7 then (spec_l5Reduce.l3 k x1 x5 x7 x8 (wrap64 (x11 + 1))) else (if 0 ≤ x11 then (if 0 ≤ x8 then (if x8 < ((rd_L1 x5 x11).length : Int) then (if (rd (rd_L1 x5 x11) x8) = 0 then (spec_l5Reduce.l3 k x1 x5 x7 x8 (wrap64 (x11 + 1))) else (if 0 ≤ x7 then (if x7 < (x5.length : Int) then ((spec_l5Clear.f k (rd_L1 x5 x11) (rd_L1 x5 x7) x8).bind fun t205 => (spec_l5Reduce.l3 k x1 (x5.set (x11 : Int).toNat t205) x7 x8 (wrap64 (x11 + 1)))) else (none)) else (none))) else (none)) else (none)) else (none))) else (spec_l5Reduce.l1 k x1 x5 (wrap64 (x7 + 1)) (wrap64 (x8 + 1)))
def spec_l5Reduce.l2 : Nat → Int → List (List Int) → Int → Int → Int → Option ((List (List Int)))
 | 0, _, _, _, _, _ => none
 | k + 1, x1, x5, x7, x8, x9 => if x9 < (x5.length : Int) then (if 0 ≤ x9 then (if 0 ≤ x8 then (if x8 < ((rd_L1 x5 x9).length : Int) then (if (rd (rd_L1 x5 x9) x8) = 0 then (spec_l5Reduce.l2 k x1 x5 x7 x8 (wrap64 (x9 + 1))) else (spec_l5Reduce.j3 k x1 x5 x7 x8 x9)) else (none)) else (none)) else (none)) else (spec_l5Reduce.j3 k x1 x5 x7 x8 x9)
end
def spec_l5Reduce.f (k : Nat) (l0 : List (List Int)) (a1 : Int) : Option ((List (List Int))) := spec_l5Reduce.l0 k l0 a1 (([] : List (List Int))) 0
def spec_l5Reduce.T21 : Bool × List (List Nat × List Nat) := (true, [([], []), ([], []), ([], []), ([], []), ([2, 3], [2, 3]), ([4], [4]), ([], []), ([], []), ([6, 7], [6, 7]), ([8], [8]), ([], []), ([5, 9, 10], [5, 9, 10]), ([0, 1, 0, 1, 2, 3, 4, 5, 6, 7, 8, 9, 10, 11], [0, 1]), ([12, 11, 11, 0, 1, 2, 3, 4, 5, 6, 7, 8, 9, 10, 11], [11, 12])])
def spec_l5Reduce.B21 : List Nat := [0, 0, 0, 0, 12, 28, 0, 0, 192, 448, 0, 2044, 4095, 8191]
theorem spec_l5Reduce.tab21 : rtab .any (opsOf Try.f90 21) = spec_l5Reduce.T21 := by kernel_rfl
theorem spec_l5Reduce.bits21 : waitsOk spec_l5Reduce.T21.2 spec_l5Reduce.B21 = true := by kernel_rfl
set_option maxHeartbeats 8000000 in
set_option maxRecDepth 100000 in
theorem spec_l5Reduce.calls (k : Nat) (A0 : Option Addr) (c0 : Nat) (l0 : List (List Int)) (a1 : Int) (r : List (List Int)) (w : World) (hr0 : Kd.C (Kd.slice 3 (Kd.int .i64)) w A0 l0.length l0) (hc0 : l0.length ≤ c0) (h : spec_l5Reduce.f k l0 a1 = some r) :
 Calls Try.prog 90 #[.slice A0 l0.length c0, .int .i64 a1] w fun e w' => ∃ v0_ : Value, e = .returned (v0_) ∧ Kd.N (Kd.slice 3 (Kd.int .i64)) 23 w' w.heap.size (fun k_ => (w.heap.size ≤ k_)) v0_ r ∧ Below w.heap.size w w' := by
 have HR0:=aM hr0;have HC0:=aM hc0;clear hr0 hc0;have HB:=aM (Below.refl w.heap.size w);have H:(spec_l5Reduce.l0 k l0 a1 (([]:List (List Int))) 0)=some r:=h;clear h;obtain ⟨y182,hy182⟩:∃y_:List (List Int),y_=(([]:List (List Int))):=⟨_,rfl⟩;replace H:(spec_l5Reduce.l0 k l0 a1 y182 0)=some r:=(by first|(rw [hy182];with_reducible exact H)|(have H2_:=(Option.bind_some _ _).symm.trans H;rw [hy182];with_reducible exact H2_)|(have H2_:=(Option.bind_some _ _).symm.trans H;with_reducible exact H2_)|with_reducible exact H|(rw [hy182];exact H)|exact H);have Ny182:=aM hy182;clear hy182;have H':=aM H;clear H;go_enter Try.func90,Try.ntmps90;go_wp2_with (first|((with_reducible refine gate_dst (N:=12) rfl ?_);refine Kd.N_lit (Kd.slice 3 (Kd.int .i64)) _ 23 ?hg (N':=12) ?hd (xs:=([]:List (List Int))) (inner:=[]) (ok:=(fun k_=>(w.heap.size≤k_))) (okp:=(fun k_=>(w.heap.size≤k_))) ?hr ?hp (fun _ hk=>hk) ((show ∀k_,w.heap.size≤k_→(fun k_=>(w.heap.size≤k_)) k_ from fun k_ hk=>(Nat.le_trans (below_size (zb HB.out)) hk)) _ (Nat.le_refl _)) (Below.refl _ _) (Nat.le_refl _) (by simp) ?_;(case hd=>rfl);(case hg=>rfl);(case hr=>first|(go_simp;done)|(go_simp;rfl));(case hp=>exact (Reps.none _ _));intro v183 w3 ho4 hb hg_ hnew_;clear hg_ hnew_;(first|rw [← Ny182.out] at ho4|(simp only [Int.reduceToNat] at ho4;rw [← Ny182.out] at ho4));have HO184:=aM (Kd.N_lower ho4 (below_size (zb HB.out)));replace HB:=aM (below_step (zb HB.out) hb);clear hb ho4));go_loopg [5,6] k (fun kq v5 v6 w'=>∃(x5_1:List (List Int)) (x6_1:Int),v6 = .int .i64 x6_1∧Aside0 (spec_l5Reduce.l0 kq l0 a1 x5_1 x6_1=some r)∧Aside0 (kq≤k)∧Aside0 (Kd.N (Kd.slice 3 (Kd.int .i64)) 23 w' w.heap.size (fun k_=>(w.heap.size≤k_)) v5 x5_1)∧Aside0 (Below w.heap.size w w'));(case atStart=>exact ⟨(y182),(0),zt,H',⟨Nat.le_refl _⟩,⟨zn HO184.out⟩,⟨zb HB.out⟩⟩)
 case round=>
  clear H';(try clear p2);obtain ⟨x5_1,x6_1,rfl,HA,HK1,HO_5,HB⟩:=hrel;cases gk with
  | zero=>exact absurd HA.out (by simp [spec_l5Reduce.l0])
  | succ k1=>
   have H:=HA.out;clear HA;simp only [spec_l5Reduce.l0] at H;by_cases c5:x6_1<(l0.length:Int)
   ·rw [if_pos c5] at H;have c5b0:decide (x6_1<(l0.length:Int))=true:=decide_eq_true c5;clear c5;obtain ⟨c6b0,H⟩:=iN H;obtain ⟨t186,A7,H⟩:=bz H;by_cases c8:x5_1.length<5864062014805
    ·rw [if_pos c8] at H;have LMc8:=aM c8;clear c8;obtain ⟨y189,hy189⟩:∃y_:List (List Int),y_=(x5_1 ++ [t186]):=⟨_,rfl⟩;replace H:(spec_l5Reduce.l0 k1 l0 a1 y189 (wrap64 (x6_1+1)))=some r:=(by first|(rw [hy189];with_reducible exact H)|(have H2_:=(Option.bind_some _ _).symm.trans H;rw [hy189];with_reducible exact H2_)|(have H2_:=(Option.bind_some _ _).symm.trans H;with_reducible exact H2_)|with_reducible exact H|(rw [hy189];exact H)|exact H);have Ny189:=aM hy189;clear hy189;have H':=aM H;clear H;have p185:0≤(x6_1:Int):=zd;have q185:x6_1<(l0.length:Int):=zd;obtain ⟨ad185,A185_0,c185_0,e185,hx185_0,hl185_0,hi185_0⟩:=at_L1 HR0.out x6_1 p185 q185;cases e185;replace hx185_0:=(HB.out.cell (World.block_lt_of_cell? w _ hx185_0)).trans hx185_0;have HR185_0:=aM hi185_0;have HC185_0:=aM hl185_0;clear hi185_0 hl185_0;replace p185:=eq_true p185;replace q185:=eq_true q185;go_wp2_with (first|((with_reducible refine gate_callee (f:=109) rfl ?_);refine gm (some 24) Try.func109 #[.slice A185_0 (rd_L1 l0 x6_1).length c185_0] ?_;(with_reducible refine (spec_l5Tidy.calls k1 _ _ (rd_L1 l0 x6_1) t186 _ ?side1 ?side2 A7.out).mono ?_);(case side1=>exact zc (Kd.C_below HR185_0.out HB.out));(case side2=>exact HC185_0.out);rintro e w9 ⟨v187,rfl,ho0,hb⟩;refine ⟨_,rfl,?_⟩;replace HO_5:=aM (Kd.N_elder' (zn HO_5.out) (Kd.R_base ho0) hb);have HO188:=aM (Kd.R_lower (Kd.R_newM (M:=fun k_=>(w.heap.size≤k_)) ho0 (below_size (zb HB.out)) (fun k_ h_=>h_)) (below_size (zb HB.out)));replace HB:=aM (below_step (zb HB.out) hb);(try clear hb);(try clear hb2);(try clear hk);(try clear hi);(try clear ho0);obtain ⟨Ao11,co11,eo11⟩:=Kd.R_slice HO188.out;subst eo11)|((with_reducible refine gate_builtin (b:=.append) (xs:=#[.tmp 19,.tmp 25]) rfl ?_);at_builtin;refine Kd.N_append (Kd.slice 3 (Kd.int .i64)) (w0:=w) w.heap.size rfl (.tmp 19) (.tmp 25) 22 23 (.slice none 0 0) 24 rfl Try.underlying22 info23 rfl (by decide) (by omega) u5 x5_1 t186 [.slice Ao11 t186.length co11] (fun k_=>(w.heap.size≤k_)) (fun k_=>((fun k_=>(w.heap.size≤k_))) k_∧some k_≠(u5:Value).ownBlock) rfl rfl ?aP (fun _ hk=>hk) ?aF ?aO ?aB ?aS ?aL ?_;(case aP=>exact (Kd.FK_slice_mk (Kd.R_reads' (Kd.R_mono (ok':=(fun k_=>((fun k_=>(w.heap.size≤k_))) k_∧some k_≠(u5:Value).ownBlock)) (Kd.R_apart' (HO188.out) (Kd.N_typed HO_5.out) (by decide)) (fun k_ hk=>⟨hk.1.1,hk.2⟩))).2.1 (Kd.R_F (Kd.R_mono (ok':=(fun k_=>((fun k_=>(w.heap.size≤k_))) k_∧some k_≠(u5:Value).ownBlock)) (Kd.R_apart' (HO188.out) (Kd.N_typed HO_5.out) (by decide)) (fun k_ hk=>⟨hk.1.1,hk.2⟩)))));(case aB=>exact (zb HB.out));(case aF=>exact (fun k_ hk=>(Nat.le_trans (below_size (zb HB.out)) hk)));(case aO=>exact (by (with_reducible repeat (first|apply Kd.N_alloc|apply Kd.N_drewN|apply Kd.N_drew));exact Kd.N_mono HO_5.out (fun _ hk=>hk.1)));(case aS=>exact (below_size (zb HB.out)));(case aL=>have:=LMc8.out;omega);intro v190 w10 ho hb hg hat;rw [← Ny189.out] at ho;replace HB:=aM (hb);have HO191:=aM (ho);clear HO_5 HO188 ho hb hg hat));go_roundg k1;(case measure=>have:=HK1.out;omega);(case rel=>exact ⟨(y189),(wrap64 (x6_1+1)),zt,H',⟨by have:=HK1.out;omega⟩,⟨zn HO191.out⟩,⟨zb HB.out⟩⟩)
    ·rw [if_neg c8] at H;exact absurd H (by simp)
   ·rw [if_neg c5] at H;have c5b0:decide (x6_1<(l0.length:Int))=false:=decide_eq_false c5;clear c5;have H':=aM H;clear H;go_wp2;go_loopg [7,8] k1 (fun kq v7 v8 w'=>∃(x5_2:List (List Int)) (x7_2:Int) (x8_2:Int),v7 = .int .i64 x7_2∧v8 = .int .i64 x8_2∧Aside0 (spec_l5Reduce.l1 kq a1 x5_2 x7_2 x8_2=some r)∧Aside0 (kq≤k1)∧Aside0 (Kd.N (Kd.slice 3 (Kd.int .i64)) 23 w' w.heap.size (fun k_=>(w.heap.size≤k_)) u5 x5_2)∧Aside0 (Below w.heap.size w w'));(case atStart=>exact ⟨(x5_1),(0),(0),zt,zt,H',⟨Nat.le_refl _⟩,⟨zn HO_5.out⟩,⟨zb HB.out⟩⟩)
    case round=>
     clear H';(try clear c1);(try clear p1);(try clear q1);(try clear hx1);(try clear p2);(try clear c5);(try clear c5b0);(try clear c6);(try clear c6b0);(try clear p6);(try clear c8);(try clear c9);(try clear c10);(try clear hx185_0);(try clear p185);(try clear p2);(try clear q185);obtain ⟨x5_2,x7_2,x8_2,rfl,rfl,HA,HK2,HO_5,HB⟩:=hrel;cases gk with
     | zero=>exact absurd HA.out (by simp [spec_l5Reduce.l1])
     | succ k2=>
      have H:=HA.out;clear HA;simp only [spec_l5Reduce.l1] at H;by_cases c12:x8_2<a1
      ·rw [if_pos c12] at H;have c12b0:decide (x8_2<a1)=true:=decide_eq_true c12;clear c12;have HC13:=aM H;clear H;go_upto_block 4 with (fail)
       go_cut [9] (fun v9 wc=>∃(kq:Nat) (x9_12:Int),v9 = .int .i64 x9_12∧Aside0 (spec_l5Reduce.j3 kq a1 x5_2 x7_2 x8_2 x9_12=some r)∧Aside0 (kq≤k2)∧Aside0 (Kd.N (Kd.slice 3 (Kd.int .i64)) 23 wc w.heap.size (fun k_=>(w.heap.size≤k_)) u5 x5_2)∧Aside0 (Below w.heap.size w wc))
       case first=>
        have H:=HC13.out;clear HC13;have H':=aM H;clear H;go_wp2;go_loopg [9] k2 (fun kq v9 w'=>∃(x9_3:Int),v9 = .int .i64 x9_3∧Aside0 (spec_l5Reduce.l2 kq a1 x5_2 x7_2 x8_2 x9_3=some r)∧Aside0 (kq≤k2)∧Aside0 (Kd.N (Kd.slice 3 (Kd.int .i64)) 23 w' w.heap.size (fun k_=>(w.heap.size≤k_)) u5 x5_2)∧Aside0 (Below w.heap.size w w'));(case atStart=>exact ⟨(x7_2),zt,H',⟨Nat.le_refl _⟩,⟨zn HO_5.out⟩,⟨zb HB.out⟩⟩)
        case round=>
         clear H';(try clear c1);(try clear p1);(try clear q1);(try clear hx1);(try clear p2);(try clear c5);(try clear c5b0);(try clear c6);(try clear c6b0);(try clear p6);(try clear c8);(try clear c9);(try clear c10);(try clear c12);(try clear c12b0);(try clear hx185_0);(try clear p1);(try clear p185);(try clear p2);(try clear p6);(try clear q1);(try clear q185);obtain ⟨x9_3,rfl,HA,HK3,HO_5,HB⟩:=hrel;cases gk with
         | zero=>exact absurd HA.out (by simp [spec_l5Reduce.l2])
         | succ k3=>
          have H:=HA.out;clear HA;simp only [spec_l5Reduce.l2] at H;by_cases c14:x9_3<(x5_2.length:Int)
          ·rw [if_pos c14] at H;have c14b0:decide (x9_3<(x5_2.length:Int))=true:=decide_eq_true c14;clear c14;(first|rw [c14b0]|(simp only [i64_w,i32_w];rw [c14b0])|skip);obtain ⟨c15b0,H⟩:=iN H;obtain ⟨c16b0,H⟩:=iN H;obtain ⟨c17b0,H⟩:=iN H;by_cases c18:(rd (rd_L1 x5_2 x9_3) x8_2)=0
           ·rw [if_pos c18] at H;have c18b0:((rd (rd_L1 x5_2 x9_3) x8_2) == 0)=true:=beq_iff_eq.mpr c18;have c18b1:((rd (rd_L1 x5_2 x9_3) x8_2) != 0)=false:=bne_eq_false_iff_eq.mpr c18;clear c18;have H':=aM H;clear H;obtain ⟨Ao19,co19,eo19⟩:=Kd.N_slice HO_5.out;subst eo19;have p192:0≤(x9_3:Int):=zd;have q192:x9_3<(x5_2.length:Int):=zd;obtain ⟨ad192,A192_0,c192_0,e192,hx192_0,hl192_0,hi192_0⟩:=at_L1 (Kd.N_reads' HO_5.out).2.2 x9_3 p192 q192;cases e192;obtain ⟨ce192,hce192,hMe192,hcc192⟩:=Kd.N_get HO_5.out [] x9_3 p192 (by first|exact q192|exact zd|(have e_:=(Kd.N_reads' HO_5.out).1;omega));obtain ⟨ua192_0,uc192_0,rfl,ul192_0,ge192_0⟩:=Kd.FK_slice_open hMe192;have hv192_0:=hcc192 0 _ rfl;rw [Nat.add_zero,show ((Kd.slice 3 (Kd.int .i64))).sz=1 from rfl,Nat.mul_one] at hv192_0;replace hv192_0:=Option.some.inj (hv192_0.symm.trans hx192_0);injection hv192_0 with hva_ hvn_ hvc_
            rw [hva_] at ge192_0;rw [hvc_] at ul192_0;have HL192_0:=aM (show Kd.V (Kd.int .i64) 3 _ w.heap.size _ _ (rd_L1 x5_2 x9_3) from Kd.V_mk ul192_0 ge192_0);clear hva_ hvn_ hvc_ ge192_0 ul192_0 hcc192 hce192;have HR192_0:=aM hi192_0;have HC192_0:=aM hl192_0;clear hi192_0 hl192_0;replace p192:=eq_true p192;replace q192:=eq_true q192;have p193:0≤(x8_2:Int):=zd;have q193:x8_2<((rd_L1 x5_2 x9_3).length:Int):=zd;obtain ⟨ad193,e193,hx193_0⟩:=Kd.at_int (zc HR192_0.out) x8_2 p193 q193;cases e193;replace p193:=eq_true p193;replace q193:=eq_true q193;go_wp2;go_roundg k3;(case measure=>have:=HK1.out;have:=HK2.out;have:=HK3.out;omega);(case rel=>exact ⟨(wrap64 (x9_3+1)),zt,H',⟨by have:=HK1.out;have:=HK2.out;have:=HK3.out;omega⟩,⟨zn HO_5.out⟩,⟨zb HB.out⟩⟩)
           ·rw [if_neg c18] at H;have c18b0:((rd (rd_L1 x5_2 x9_3) x8_2) == 0)=false:=beq_eq_false_iff_ne.mpr c18;have c18b1:((rd (rd_L1 x5_2 x9_3) x8_2) != 0)=true:=bne_iff_ne.mpr c18;have H':=aM H;clear H;obtain ⟨Ao20,co20,eo20⟩:=Kd.N_slice HO_5.out;subst eo20;have p192:0≤(x9_3:Int):=zd;have q192:x9_3<(x5_2.length:Int):=zd;obtain ⟨ad192,A192_0,c192_0,e192,hx192_0,hl192_0,hi192_0⟩:=at_L1 (Kd.N_reads' HO_5.out).2.2 x9_3 p192 q192;cases e192;obtain ⟨ce192,hce192,hMe192,hcc192⟩:=Kd.N_get HO_5.out [] x9_3 p192 (by first|exact q192|exact zd|(have e_:=(Kd.N_reads' HO_5.out).1;omega));obtain ⟨ua192_0,uc192_0,rfl,ul192_0,ge192_0⟩:=Kd.FK_slice_open hMe192;have hv192_0:=hcc192 0 _ rfl;rw [Nat.add_zero,show ((Kd.slice 3 (Kd.int .i64))).sz=1 from rfl,Nat.mul_one] at hv192_0;replace hv192_0:=Option.some.inj (hv192_0.symm.trans hx192_0);injection hv192_0 with hva_ hvn_ hvc_
            rw [hva_] at ge192_0;rw [hvc_] at ul192_0;have HL192_0:=aM (show Kd.V (Kd.int .i64) 3 _ w.heap.size _ _ (rd_L1 x5_2 x9_3) from Kd.V_mk ul192_0 ge192_0);clear hva_ hvn_ hvc_ ge192_0 ul192_0 hcc192 hce192;have HR192_0:=aM hi192_0;have HC192_0:=aM hl192_0;clear hi192_0 hl192_0;replace p192:=eq_true p192;replace q192:=eq_true q192;have p193:0≤(x8_2:Int):=zd;have q193:x8_2<((rd_L1 x5_2 x9_3).length:Int):=zd;obtain ⟨ad193,e193,hx193_0⟩:=Kd.at_int (zc HR192_0.out) x8_2 p193 q193;cases e193;replace p193:=eq_true p193;replace q193:=eq_true q193;go_wp2;go_meet;(case rel=>exact ⟨_,(x9_3),zt,H',⟨by have:=HK1.out;have:=HK2.out;have:=HK3.out;first|omega|exact Nat.le_refl _⟩,⟨zn HO_5.out⟩,⟨zb HB.out⟩⟩)
          ·rw [if_neg c14] at H;have c14b0:decide (x9_3<(x5_2.length:Int))=false:=decide_eq_false c14;clear c14;(first|rw [c14b0]|(simp only [i64_w,i32_w];rw [c14b0])|skip);have H':=aM H;clear H;obtain ⟨Ao21,co21,eo21⟩:=Kd.N_slice HO_5.out;subst eo21;go_wp2;go_meet;(case rel=>exact ⟨_,(x9_3),zt,H',⟨by have:=HK1.out;have:=HK2.out;have:=HK3.out;first|omega|exact Nat.le_refl _⟩,⟨zn HO_5.out⟩,⟨zb HB.out⟩⟩)
       case rest=>
        clear HC13;(try clear c1);(try clear p1);(try clear q1);(try clear hx1);(try clear p2);(try clear c5);(try clear c5b0);(try clear c6);(try clear c6b0);(try clear p6);(try clear c8);(try clear c9);(try clear c10);(try clear c12);(try clear c12b0);(try clear c14);(try clear c14b0);(try clear c15);(try clear c15b0);(try clear c16);(try clear c16b0);(try clear c17);(try clear c17b0);(try clear c18);(try clear c18b0);(try clear c18b1);(try clear p18);(try clear q18);(try clear hx18);(try clear c19);(try clear p19);(try clear q19);(try clear hx19);(try clear hx185_0);(try clear hx192_0);(try clear hx193_0);(try clear p1);(try clear p185);(try clear p192);(try clear p193);(try clear p2);(try clear p6);(try clear q1);(try clear q185);(try clear q192);(try clear q193);obtain ⟨kq,x9_12,rfl,HA,HJ12,HO_5,HB⟩:=hcut;cases kq with
        | zero=>exact absurd HA.out (by simp [spec_l5Reduce.j3])
        | succ kj12=>
         have H:=HA.out;clear HA;simp only [spec_l5Reduce.j3] at H;by_cases c22:x9_12=(x5_2.length:Int)
         ·rw [if_pos c22] at H;have c22b0:(x9_12 == (x5_2.length:Int))=true:=beq_iff_eq.mpr c22;have c22b1:(x9_12 != (x5_2.length:Int))=false:=bne_eq_false_iff_eq.mpr c22;clear c22;have H':=aM H;clear H;obtain ⟨Ao23,co23,eo23⟩:=Kd.N_slice HO_5.out;subst eo23;go_wp2;go_roundg kj12;(case measure=>have:=HK1.out;have:=HK2.out;have:=HJ12.out;omega);(case rel=>exact ⟨(x5_2),(x7_2),(wrap64 (x8_2+1)),zt,zt,H',⟨by have:=HK1.out;have:=HK2.out;have:=HJ12.out;omega⟩,⟨zn HO_5.out⟩,⟨zb HB.out⟩⟩)
         ·rw [if_neg c22] at H;have c22b0:(x9_12 == (x5_2.length:Int))=false:=beq_eq_false_iff_ne.mpr c22;have c22b1:(x9_12 != (x5_2.length:Int))=true:=bne_iff_ne.mpr c22;obtain ⟨c24b0,H⟩:=iN H;obtain ⟨c25b0,H⟩:=iN H;obtain ⟨c26b0,H⟩:=iN H;obtain ⟨c27b0,H⟩:=iN H;obtain ⟨y196,hy196⟩:∃y_:List (List Int),y_=(x5_2.set (x9_12:Int).toNat (rd_L1 x5_2 x7_2)):=⟨_,rfl⟩;replace H:((spec_l5Tidy.f kj12 (rd_L1 x5_2 x9_12)).bind fun t197=>(spec_l5Reduce.l3 kj12 a1 (y196.set (x7_2:Int).toNat t197) x7_2 x8_2 0))=some r:=(by first|(rw [hy196];with_reducible exact H)|(have H2_:=(Option.bind_some _ _).symm.trans H;rw [hy196];with_reducible exact H2_)|(have H2_:=(Option.bind_some _ _).symm.trans H;with_reducible exact H2_)|with_reducible exact H|(rw [hy196];exact H)|exact H);have Ny196:=aM hy196;clear hy196;obtain ⟨t197,A29,H⟩:=bz H;obtain ⟨y200,hy200⟩:∃y_:List (List Int),y_=(y196.set (x7_2:Int).toNat t197):=⟨_,rfl⟩;replace H:(spec_l5Reduce.l3 kj12 a1 y200 x7_2 x8_2 0)=some r:=(by first|(rw [hy200];with_reducible exact H)|(have H2_:=(Option.bind_some _ _).symm.trans H;rw [hy200];with_reducible exact H2_)|(have H2_:=(Option.bind_some _ _).symm.trans H;with_reducible exact H2_)|with_reducible exact H|(rw [hy200];exact H)|exact H);have Ny200:=aM hy200;clear hy200;have H':=aM H;clear H;obtain ⟨Ao31,co31,eo31⟩:=Kd.N_slice HO_5.out;subst eo31;have p194:0≤(x9_12:Int):=zd;have q194:x9_12<(x5_2.length:Int):=zd;obtain ⟨ad194,A194_0,c194_0,e194,hx194_0,hl194_0,hi194_0⟩:=at_L1 (Kd.N_reads' HO_5.out).2.2 x9_12 p194 q194;cases e194;obtain ⟨ce194,hce194,hMe194,hcc194⟩:=Kd.N_get HO_5.out [] x9_12 p194 (by first|exact q194|exact zd|(have e_:=(Kd.N_reads' HO_5.out).1;omega));obtain ⟨ua194_0,uc194_0,rfl,ul194_0,ge194_0⟩:=Kd.FK_slice_open hMe194;have hv194_0:=hcc194 0 _ rfl;rw [Nat.add_zero,show ((Kd.slice 3 (Kd.int .i64))).sz=1 from rfl,Nat.mul_one] at hv194_0;replace hv194_0:=Option.some.inj (hv194_0.symm.trans hx194_0);injection hv194_0 with hva_ hvn_ hvc_
          rw [hva_] at ge194_0;rw [hvc_] at ul194_0;have HL194_0:=aM (show Kd.V (Kd.int .i64) 3 _ w.heap.size _ _ (rd_L1 x5_2 x9_12) from Kd.V_mk ul194_0 ge194_0);clear hva_ hvn_ hvc_ ge194_0 ul194_0 hcc194 hce194;have HR194_0:=aM hi194_0;have HC194_0:=aM hl194_0;clear hi194_0 hl194_0;replace p194:=eq_true p194;replace q194:=eq_true q194;have p195:0≤(x7_2:Int):=zd;have q195:x7_2<(x5_2.length:Int):=zd;obtain ⟨ad195,A195_0,c195_0,e195,hx195_0,hl195_0,hi195_0⟩:=at_L1 (Kd.N_reads' HO_5.out).2.2 x7_2 p195 q195;obtain rfl:ad194=ad195:=(by injection e195);obtain ⟨ce195,hce195,hMe195,hcc195⟩:=Kd.N_get HO_5.out [] x7_2 p195 (by first|exact q195|exact zd|(have e_:=(Kd.N_reads' HO_5.out).1;omega));obtain ⟨ua195_0,uc195_0,rfl,ul195_0,ge195_0⟩:=Kd.FK_slice_open hMe195;have hv195_0:=hcc195 0 _ rfl;rw [Nat.add_zero,show ((Kd.slice 3 (Kd.int .i64))).sz=1 from rfl,Nat.mul_one] at hv195_0;replace hv195_0:=Option.some.inj (hv195_0.symm.trans hx195_0);injection hv195_0 with hva_ hvn_ hvc_
          rw [hva_] at ge195_0;rw [hvc_] at ul195_0;have HL195_0:=aM (show Kd.V (Kd.int .i64) 3 _ w.heap.size _ _ (rd_L1 x5_2 x7_2) from Kd.V_mk ul195_0 ge195_0);clear hva_ hvn_ hvc_ ge195_0 ul195_0 hcc195 hce195;have HR195_0:=aM hi195_0;have HC195_0:=aM hl195_0;clear hi195_0 hl195_0;replace p195:=eq_true p195;replace q195:=eq_true q195;have p28:0≤(x9_12:Int):=zd;have q28:(x9_12:Int)<((x5_2.length:Int):Int):=zd;obtain ⟨go28,co28,eo28,gb28,gl28,cl28,HG28⟩:=Kd.N_form HO_5.out (by omega);(first|cases eo28|(injection eo28 with ea_ en_ ec_;(first|subst ea_|(injection ea_ with ea_;subst ea_));subst ec_;clear en_));have GB28:=aM gb28;have GG28:=aM HG28;clear gb28 gl28 HG28;(first|simp only [add_plain] at hx194_0|skip);(first|simp only [add_plain] at hx195_0|skip);obtain ⟨ce28,hcl28,hM28,hcc28,hfr28⟩:=Kd.N_elem HO_5.out [] (x9_12:Int) p28 q28;obtain ⟨ua28_0,uc28_0,rfl,ul28_0,ge28_0⟩:=Kd.FK_slice_open hM28;have hx28_0:=hcc28 0 _ rfl;have hf28_0:=hfr28 0;(try simp only [show ((Kd.slice 3 (Kd.int .i64))).sz=1 from rfl,Nat.mul_one,Nat.add_zero] at hx28_0);(try simp only [show ((Kd.slice 3 (Kd.int .i64))).sz=1 from rfl,Nat.mul_one,Nat.add_zero] at hf28_0);clear hcl28 hcc28 hfr28;(try clear hM28);replace p28:=eq_true p28;replace q28:=eq_true q28;have HX32:=aM (show Kd.N (Kd.slice 3 (Kd.int .i64)) 23 wc w.heap.size (fun k_=>(w.heap.size≤k_)) (.slice (some ⟨go28,0,none⟩) x5_2.length co31) x5_2 from (zn HO_5.out));obtain ⟨ce32,hcl32,hM32,hcc32,hfr32⟩:=Kd.N_elem HX32.out [] (x9_12:Int) (zd) (by have h_:(x9_12:Int)<((x5_2.length:Int):Int):=zd;first|exact h_|(have e_:=(Kd.N_reads' HO_5.out).1;omega)|simpa using h_);obtain ⟨ua32_0,uc32_0,rfl,ul32_0,ge32_0⟩:=Kd.FK_slice_open hM32;have HP32:=Kd.N_seg HX32.out (x9_12:Int) (zd) (by have h_:(x9_12:Int)<((x5_2.length:Int):Int):=zd;first|exact h_|(have e_:=(Kd.N_reads' HO_5.out).1;omega)|simpa using h_) (seg:=[.slice A195_0 (rd_L1 x5_2 x7_2).length c195_0]) (j:=0) hcl32 hcc32 (show 1≤1 from by decide) (x':=rd_L1 x5_2 x7_2) (Kd.FK_slice_mk (Kd.V_reads' (Kd.V_mono (ok':=(fun k_=>((fun k_=>(w.heap.size≤k_))) k_∧k_≠go28)) (HL195_0.out) (fun k_ hk=>⟨hk.1,fun e_=>(hk.2) (by rw [e_];rfl)⟩))).2.1 (Kd.V_F (Kd.V_mono (ok':=(fun k_=>((fun k_=>(w.heap.size≤k_))) k_∧k_≠go28)) (HL195_0.out) (fun k_ hk=>⟨hk.1,fun e_=>(hk.2) (by rw [e_];rfl)⟩)))) (fun _ hk=>hk);have hx32_0:=hcc32 0 _ rfl;(try simp only [show ((Kd.slice 3 (Kd.int .i64))).sz=1 from rfl,Nat.mul_one,Nat.add_zero] at hx32_0);have hf32_0:=hfr32 0;(try simp only [show ((Kd.slice 3 (Kd.int .i64))).sz=1 from rfl,Nat.mul_one,Nat.add_zero] at hf32_0);clear hcl32 hcc32 hfr32;(try clear hM32);(try simp only [show ((Kd.slice 3 (Kd.int .i64))).sz=1 from rfl,Nat.mul_one,Nat.add_zero] at HP32);(try simp only [show ((Kd.slice 3 (Kd.int .i64))).sz=1 from rfl,Nat.mul_one,Nat.add_zero] at HP32);go_wp2_with (first|((with_reducible refine gate_store (t:=23) (p:=63) rfl ?_);refine store_event (t:=23) (p:=63) (v:=?vo_w33) (w1:=(wc.setCell ⟨go28,(x9_12:Int).toNat,none⟩ (.slice A195_0 (rd_L1 x5_2 x7_2).length c195_0))) ?hg ?ho ?hn ?hr ?_;(case ho=>rfl);(case hg=>rfl);(case hn=>rfl);(case hr=>first|(go_simp;done)|(go_simp;rfl));intro w33 hw;have hg:wc.grownBy w33 (some go28):=(by rw [hw];exact HP32.2);have hp_:Kd.N (Kd.slice 3 (Kd.int .i64)) 23 w33 w.heap.size (fun k_=>(w.heap.size≤k_)) (.slice (some ⟨go28,0,none⟩) x5_2.length co31) y196:=(by rw [hw,Ny196.out];exact HP32.1);clear HP32;replace HO_5:=aM (hp_);replace HL194_0:=aM (Kd.V_afterv (v:=(.slice (some ⟨go28,0,none⟩) x5_2.length co31)) (v1:=(.slice (some ⟨go28,0,none⟩) x5_2.length co31)) (ok:=(fun k_=>(w.heap.size≤k_))) (zv HL194_0.out) hg (.inl rfl));replace HL195_0:=aM (Kd.V_afterv (v:=(.slice (some ⟨go28,0,none⟩) x5_2.length co31)) (v1:=(.slice (some ⟨go28,0,none⟩) x5_2.length co31)) (ok:=(fun k_=>(w.heap.size≤k_))) (zv HL195_0.out) hg (.inl rfl));replace HB:=aM ((by rw [hw];exact below_set (HB.out) GB28.out:Below w.heap.size w w33));clear hg hw hp_)|((with_reducible refine gate_callee (f:=109) rfl ?_);refine gm (some 67) Try.func109 #[.slice A194_0 (rd_L1 x5_2 x9_12).length c194_0] ?_;(with_reducible refine (spec_l5Tidy.calls kj12 _ _ (rd_L1 x5_2 x9_12) t197 _ ?side1 ?side2 A29.out).mono ?_);(case side1=>repeat (first|exact ((Kd.V_reads' (zv HL194_0.out)).2.2)|(with_reducible refine Kd.C_alloc ?_ _)|(with_reducible refine Kd.C_drewN ?_ _)|(with_reducible refine Kd.C_drew ?_)));(case side2=>exact HC194_0.out);rintro e w34 ⟨v198,rfl,ho0,hb⟩;obtain ⟨A198v,c198v,ev198,_,_⟩:=Kd.R_reads ho0;subst ev198;refine ⟨_,rfl,?_⟩;replace HO_5:=aM (Kd.N_elder' (zn HO_5.out) (Kd.R_base ho0) hb);replace HL194_0:=aM (Kd.V_elder' (zv HL194_0.out) (Kd.R_base ho0) hb);replace HL195_0:=aM (Kd.V_elder' (zv HL195_0.out) (Kd.R_base ho0) hb);have HO199:=aM (Kd.R_lower (Kd.R_newM (M:=fun k_=>(w.heap.size≤k_)) ho0 (below_size (zb HB.out)) (fun k_ h_=>h_)) (below_size (zb HB.out)));replace HB:=aM (below_step (zb HB.out) hb);(try clear hb);(try clear hb2);(try clear hk);(try clear hi);(try clear ho0);have p30:0≤(x7_2:Int):=zd;have q30:(x7_2:Int)<((x5_2.length:Int):Int):=zd;obtain ⟨ce30,hcl30,hM30,hcc30,hfr30⟩:=Kd.N_elem HO_5.out [] (x7_2:Int) p30 q30;obtain ⟨ua30_0,uc30_0,rfl,ul30_0,ge30_0⟩:=Kd.FK_slice_open hM30;have hx30_0:=hcc30 0 _ rfl;have hf30_0:=hfr30 0;(try simp only [show ((Kd.slice 3 (Kd.int .i64))).sz=1 from rfl,Nat.mul_one,Nat.add_zero] at hx30_0);(try simp only [show ((Kd.slice 3 (Kd.int .i64))).sz=1 from rfl,Nat.mul_one,Nat.add_zero] at hf30_0);clear hcl30 hcc30 hfr30;(try clear hM30);replace p30:=eq_true p30;replace q30:=eq_true q30;have HX35:=aM (show Kd.N (Kd.slice 3 (Kd.int .i64)) 23 w34 w.heap.size (fun k_=>(w.heap.size≤k_)) (.slice (some ⟨go28,0,none⟩) x5_2.length co31) y196 from (by (with_reducible repeat (first|apply Kd.N_alloc|apply Kd.N_drewN|apply Kd.N_drew));exact Kd.N_mono HO_5.out (fun _ hk=>hk.1)));obtain ⟨ce35,hcl35,hM35,hcc35,hfr35⟩:=Kd.N_elem HX35.out [] (x7_2:Int) (zd) (by have h_:(x7_2:Int)<((x5_2.length:Int):Int):=zd;first|exact h_|(have e_:=(Kd.N_reads' HO_5.out).1;omega)|simpa using h_);obtain ⟨ua35_0,uc35_0,rfl,ul35_0,ge35_0⟩:=Kd.FK_slice_open hM35;have HP35:=Kd.N_seg HX35.out (x7_2:Int) (zd) (by have h_:(x7_2:Int)<((x5_2.length:Int):Int):=zd;first|exact h_|(have e_:=(Kd.N_reads' HO_5.out).1;omega)|simpa using h_) (seg:=[(.slice A198v t197.length c198v:Value)]) (j:=0) hcl35 hcc35 (show 1≤1 from by decide) (x':=t197) (Kd.FK_slice_mk (Kd.R_reads' (Kd.R_mono (ok':=(fun k_=>((fun k_=>(w.heap.size≤k_))) k_∧k_≠go28)) (Kd.R_apart' (HO199.out) (Kd.N_typed HO_5.out) (by decide)) (fun k_ hk=>⟨hk.1.1,fun e_=>(hk.2) (by rw [e_];rfl)⟩))).2.1 (Kd.R_F (Kd.R_mono (ok':=(fun k_=>((fun k_=>(w.heap.size≤k_))) k_∧k_≠go28)) (Kd.R_apart' (HO199.out) (Kd.N_typed HO_5.out) (by decide)) (fun k_ hk=>⟨hk.1.1,fun e_=>(hk.2) (by rw [e_];rfl)⟩)))) (fun _ hk=>hk);have hx35_0:=hcc35 0 _ rfl;(try simp only [show ((Kd.slice 3 (Kd.int .i64))).sz=1 from rfl,Nat.mul_one,Nat.add_zero] at hx35_0);have hf35_0:=hfr35 0;(try simp only [show ((Kd.slice 3 (Kd.int .i64))).sz=1 from rfl,Nat.mul_one,Nat.add_zero] at hf35_0);clear hcl35 hcc35 hfr35;(try clear hM35);(try simp only [show ((Kd.slice 3 (Kd.int .i64))).sz=1 from rfl,Nat.mul_one,Nat.add_zero] at HP35);(try simp only [show ((Kd.slice 3 (Kd.int .i64))).sz=1 from rfl,Nat.mul_one,Nat.add_zero] at HP35))|((with_reducible refine gate_store (t:=23) (p:=68) rfl ?_);refine store_event (t:=23) (p:=68) (v:=?vo_w36) (w1:=(w34.setCell ⟨go28,(x7_2:Int).toNat,none⟩ ((.slice A198v t197.length c198v:Value)))) ?hg ?ho ?hn ?hr ?_;(case ho=>rfl);(case hg=>rfl);(case hn=>rfl);(case hr=>first|(go_simp;done)|(go_simp;rfl));intro w36 hw;have hg:w34.grownBy w36 (some go28):=(by rw [hw];exact HP35.2);have hp_:Kd.N (Kd.slice 3 (Kd.int .i64)) 23 w36 w.heap.size (fun k_=>(w.heap.size≤k_)) (.slice (some ⟨go28,0,none⟩) x5_2.length co31) y200:=(by rw [hw,Ny200.out];exact HP35.1);clear HP35;replace HO_5:=aM (hp_);replace HL194_0:=aM (Kd.V_afterv (v:=(.slice (some ⟨go28,0,none⟩) x5_2.length co31)) (v1:=(.slice (some ⟨go28,0,none⟩) x5_2.length co31)) (ok:=(fun k_=>(w.heap.size≤k_)∧some k_≠((.slice A198v t197.length c198v:Value):Value).ownBlock)) (by (with_reducible repeat (first|apply Kd.V_alloc|apply Kd.V_drewN|apply Kd.V_drew));exact Kd.V_mono HL194_0.out (fun _ hk=>⟨⟨hk.1.1,hk.2⟩,hk.1.2⟩)) hg (.inl rfl));replace HL195_0:=aM (Kd.V_afterv (v:=(.slice (some ⟨go28,0,none⟩) x5_2.length co31)) (v1:=(.slice (some ⟨go28,0,none⟩) x5_2.length co31)) (ok:=(fun k_=>(w.heap.size≤k_)∧some k_≠((.slice A198v t197.length c198v:Value):Value).ownBlock)) (by (with_reducible repeat (first|apply Kd.V_alloc|apply Kd.V_drewN|apply Kd.V_drew));exact Kd.V_mono HL195_0.out (fun _ hk=>⟨⟨hk.1.1,hk.2⟩,hk.1.2⟩)) hg (.inl rfl));replace HB:=aM ((by rw [hw];exact below_set (HB.out) GB28.out:Below w.heap.size w w36));clear HO199 hg hw hp_));go_loopg [11] kj12 (fun kq v11 w'=>∃(x5_4:List (List Int)) (x11_4:Int),v11 = .int .i64 x11_4∧Aside0 (spec_l5Reduce.l3 kq a1 x5_4 x7_2 x8_2 x11_4=some r)∧Aside0 (kq≤kj12)∧Aside0 (Kd.N (Kd.slice 3 (Kd.int .i64)) 23 w' w.heap.size (fun k_=>(w.heap.size≤k_)) (.slice (some ⟨go28,0,none⟩) x5_2.length co31) x5_4)∧Aside0 (Below w.heap.size w w'));(case atStart=>exact ⟨(y200),(0),zt,H',⟨Nat.le_refl _⟩,⟨zn HO_5.out⟩,⟨zb HB.out⟩⟩)
          case round=>
           clear H';(try clear c1);(try clear p1);(try clear q1);(try clear hx1);(try clear c2);(try clear p2);(try clear q2);(try clear hx2);(try clear hf2);(try clear c3);(try clear p3);(try clear q3);(try clear hx3);(try clear hf3);(try clear c5);(try clear c5b0);(try clear c6);(try clear c6b0);(try clear p6);(try clear c8);(try clear c9);(try clear c10);(try clear c12);(try clear c12b0);(try clear c14);(try clear c14b0);(try clear c15);(try clear c15b0);(try clear c16);(try clear c16b0);(try clear c17);(try clear c17b0);(try clear c18);(try clear c18b0);(try clear c18b1);(try clear p18);(try clear q18);(try clear hx18);(try clear c19);(try clear p19);(try clear q19);(try clear hx19);(try clear c22);(try clear c22b0);(try clear c22b1);(try clear c24);(try clear c24b0);(try clear c25);(try clear c25b0);(try clear c26);(try clear c26b0);(try clear c27);(try clear c27b0);(try clear c28);(try clear p28);(try clear q28);(try clear hx28);(try clear hf28);(try clear c30);(try clear p30);(try clear q30);(try clear hx30);(try clear hf30);(try clear c32);(try clear hx32);(try clear hf32);(try clear c35);(try clear hx35);(try clear hf35);(try clear hx185_0);(try clear hx192_0);(try clear hx193_0);(try clear hx194_0);(try clear hx195_0);(try clear hx28_0);(try clear hx30_0);(try clear hx32_0);(try clear hx35_0);(try clear p1);(try clear p18);(try clear p185);(try clear p19);(try clear p192);(try clear p193);(try clear p194);(try clear p195);(try clear p2);(try clear p28);(try clear p30);(try clear p6);(try clear q1);(try clear q18);(try clear q185);(try clear q19);(try clear q192);(try clear q193);(try clear q194);(try clear q195);(try clear q28);(try clear q30);obtain ⟨x5_4,x11_4,rfl,HA,HK4,HO_5,HB⟩:=hrel;have hl5_4:=(Kd.N_reads' HO_5.out).1;rw [hl5_4] at HO_5;(try simp only [hl5_4]);cases gk with
           | zero=>exact absurd HA.out (by simp [spec_l5Reduce.l3])
           | succ k4=>
            have H:=HA.out;clear HA;simp only [spec_l5Reduce.l3] at H;by_cases c37:x11_4<(x5_4.length:Int)
            ·rw [if_pos c37] at H;have c37b0:decide (x11_4<(x5_4.length:Int))=true:=decide_eq_true c37;clear c37;by_cases c38:x11_4=x7_2
             ·rw [if_pos c38] at H;have c38b0:(x11_4 == x7_2)=true:=beq_iff_eq.mpr c38;have c38b1:(x11_4 != x7_2)=false:=bne_eq_false_iff_eq.mpr c38;clear c38;have H':=aM H;clear H;go_wp2;(try simp only [← hl5_4]);go_roundg k4;(case measure=>have:=HK1.out;have:=HK2.out;have:=HJ12.out;have:=HK4.out;omega);(case rel=>exact ⟨(x5_4),(wrap64 (x11_4+1)),zt,H',⟨by have:=HK1.out;have:=HK2.out;have:=HJ12.out;have:=HK4.out;omega⟩,⟨by (try simp only [hl5_4]);(with_reducible repeat (first|apply Kd.N_alloc|apply Kd.N_drewN|apply Kd.N_drew));exact HO_5.out⟩,⟨zb HB.out⟩⟩)
             ·rw [if_neg c38] at H;have c38b0:(x11_4 == x7_2)=false:=beq_eq_false_iff_ne.mpr c38;have c38b1:(x11_4 != x7_2)=true:=bne_iff_ne.mpr c38;obtain ⟨c39b0,H⟩:=iN H;obtain ⟨c40b0,H⟩:=iN H;obtain ⟨c41b0,H⟩:=iN H;by_cases c42:(rd (rd_L1 x5_4 x11_4) x8_2)=0
              ·rw [if_pos c42] at H;have c42b0:((rd (rd_L1 x5_4 x11_4) x8_2) == 0)=true:=beq_iff_eq.mpr c42;have c42b1:((rd (rd_L1 x5_4 x11_4) x8_2) != 0)=false:=bne_eq_false_iff_eq.mpr c42;clear c42;have H':=aM H;clear H;have p201:0≤(x11_4:Int):=zd;have q201:x11_4<(x5_4.length:Int):=zd;obtain ⟨ad201,A201_0,c201_0,e201,hx201_0,hl201_0,hi201_0⟩:=at_L1 (Kd.N_reads' HO_5.out).2.2 x11_4 p201 q201;obtain rfl:(⟨go28,0,none⟩:Addr)=ad201:=(by injection e201);obtain ⟨ce201,hce201,hMe201,hcc201⟩:=Kd.N_get HO_5.out [] x11_4 p201 (by first|exact q201|exact zd|(have e_:=(Kd.N_reads' HO_5.out).1;omega));obtain ⟨ua201_0,uc201_0,rfl,ul201_0,ge201_0⟩:=Kd.FK_slice_open hMe201;have hv201_0:=hcc201 0 _ rfl;rw [Nat.add_zero,show ((Kd.slice 3 (Kd.int .i64))).sz=1 from rfl,Nat.mul_one] at hv201_0;replace hv201_0:=Option.some.inj (hv201_0.symm.trans hx201_0);injection hv201_0 with hva_ hvn_ hvc_
               rw [hva_] at ge201_0;rw [hvc_] at ul201_0;have HL201_0:=aM (show Kd.V (Kd.int .i64) 3 _ w.heap.size _ _ (rd_L1 x5_4 x11_4) from Kd.V_mk ul201_0 ge201_0);clear hva_ hvn_ hvc_ ge201_0 ul201_0 hcc201 hce201;(first|simp only [add_plain] at hx201_0|simp only [add_at] at hx201_0|simp only [Addr.add,Nat.zero_add] at hx201_0|skip);have HR201_0:=aM hi201_0;have HC201_0:=aM hl201_0;clear hi201_0 hl201_0;replace p201:=eq_true p201;replace q201:=eq_true q201;have p202:0≤(x8_2:Int):=zd;have q202:x8_2<((rd_L1 x5_4 x11_4).length:Int):=zd;obtain ⟨ad202,e202,hx202_0⟩:=Kd.at_int (zc HR201_0.out) x8_2 p202 q202;cases e202;replace p202:=eq_true p202;replace q202:=eq_true q202;go_wp2;(try simp only [← hl5_4]);go_roundg k4;(case measure=>have:=HK1.out;have:=HK2.out;have:=HJ12.out;have:=HK4.out;omega);(case rel=>exact ⟨(x5_4),(wrap64 (x11_4+1)),zt,H',⟨by have:=HK1.out;have:=HK2.out;have:=HJ12.out;have:=HK4.out;omega⟩,⟨by (try simp only [hl5_4]);(with_reducible repeat (first|apply Kd.N_alloc|apply Kd.N_drewN|apply Kd.N_drew));exact HO_5.out⟩,⟨zb HB.out⟩⟩)
              ·rw [if_neg c42] at H;have c42b0:((rd (rd_L1 x5_4 x11_4) x8_2) == 0)=false:=beq_eq_false_iff_ne.mpr c42;have c42b1:((rd (rd_L1 x5_4 x11_4) x8_2) != 0)=true:=bne_iff_ne.mpr c42;obtain ⟨c43b0,H⟩:=iN H;obtain ⟨c44b0,H⟩:=iN H;obtain ⟨t205,A45,H⟩:=bz H;obtain ⟨y208,hy208⟩:∃y_:List (List Int),y_=(x5_4.set (x11_4:Int).toNat t205):=⟨_,rfl⟩;replace H:(spec_l5Reduce.l3 k4 a1 y208 x7_2 x8_2 (wrap64 (x11_4+1)))=some r:=(by first|(rw [hy208];with_reducible exact H)|(have H2_:=(Option.bind_some _ _).symm.trans H;rw [hy208];with_reducible exact H2_)|(have H2_:=(Option.bind_some _ _).symm.trans H;with_reducible exact H2_)|with_reducible exact H|(rw [hy208];exact H)|exact H);have Ny208:=aM hy208;clear hy208;have H':=aM H;clear H;have p201:0≤(x11_4:Int):=zd;have q201:x11_4<(x5_4.length:Int):=zd;obtain ⟨ad201,A201_0,c201_0,e201,hx201_0,hl201_0,hi201_0⟩:=at_L1 (Kd.N_reads' HO_5.out).2.2 x11_4 p201 q201;obtain rfl:(⟨go28,0,none⟩:Addr)=ad201:=(by injection e201);obtain ⟨ce201,hce201,hMe201,hcc201⟩:=Kd.N_get HO_5.out [] x11_4 p201 (by first|exact q201|exact zd|(have e_:=(Kd.N_reads' HO_5.out).1;omega));obtain ⟨ua201_0,uc201_0,rfl,ul201_0,ge201_0⟩:=Kd.FK_slice_open hMe201;have hv201_0:=hcc201 0 _ rfl;rw [Nat.add_zero,show ((Kd.slice 3 (Kd.int .i64))).sz=1 from rfl,Nat.mul_one] at hv201_0;replace hv201_0:=Option.some.inj (hv201_0.symm.trans hx201_0);injection hv201_0 with hva_ hvn_ hvc_
               rw [hva_] at ge201_0;rw [hvc_] at ul201_0;have HL201_0:=aM (show Kd.V (Kd.int .i64) 3 _ w.heap.size _ _ (rd_L1 x5_4 x11_4) from Kd.V_mk ul201_0 ge201_0);clear hva_ hvn_ hvc_ ge201_0 ul201_0 hcc201 hce201;(first|simp only [add_plain] at hx201_0|simp only [add_at] at hx201_0|simp only [Addr.add,Nat.zero_add] at hx201_0|skip);have HR201_0:=aM hi201_0;have HC201_0:=aM hl201_0;clear hi201_0 hl201_0;replace p201:=eq_true p201;replace q201:=eq_true q201;have p202:0≤(x8_2:Int):=zd;have q202:x8_2<((rd_L1 x5_4 x11_4).length:Int):=zd;obtain ⟨ad202,e202,hx202_0⟩:=Kd.at_int (zc HR201_0.out) x8_2 p202 q202;cases e202;replace p202:=eq_true p202;replace q202:=eq_true q202;(try go_wp2);replace HO_5:=aM (Kd.N_drew HO_5.out);replace HL201_0:=aM (Kd.V_drew HL201_0.out);replace HR201_0:=aM (Kd.C_drew HR201_0.out);replace HB:=aM (below_drew1 HB.out);have p203:0≤(x11_4:Int):=zd;have q203:x11_4<(x5_4.length:Int):=zd;obtain ⟨ad203,A203_0,c203_0,e203,hx203_0,hl203_0,hi203_0⟩:=at_L1 (Kd.N_reads' HO_5.out).2.2 x11_4 p203 q203;obtain rfl:(⟨go28,0,none⟩:Addr)=ad203:=(by injection e203);obtain ⟨ce203,hce203,hMe203,hcc203⟩:=Kd.N_get HO_5.out [] x11_4 p203 (by first|exact q203|exact zd|(have e_:=(Kd.N_reads' HO_5.out).1;omega));obtain ⟨ua203_0,uc203_0,rfl,ul203_0,ge203_0⟩:=Kd.FK_slice_open hMe203;have hv203_0:=hcc203 0 _ rfl;rw [Nat.add_zero,show ((Kd.slice 3 (Kd.int .i64))).sz=1 from rfl,Nat.mul_one] at hv203_0;replace hv203_0:=Option.some.inj (hv203_0.symm.trans hx203_0);injection hv203_0 with hva_ hvn_ hvc_
               rw [hva_] at ge203_0;rw [hvc_] at ul203_0;have HL203_0:=aM (show Kd.V (Kd.int .i64) 3 _ w.heap.size _ _ (rd_L1 x5_4 x11_4) from Kd.V_mk ul203_0 ge203_0);clear hva_ hvn_ hvc_ ge203_0 ul203_0 hcc203 hce203;(first|simp only [add_plain] at hx203_0|simp only [add_at] at hx203_0|simp only [Addr.add,Nat.zero_add] at hx203_0|skip);have HR203_0:=aM hi203_0;have HC203_0:=aM hl203_0;clear hi203_0 hl203_0;replace p203:=eq_true p203;replace q203:=eq_true q203;have p204:0≤(x7_2:Int):=zd;have q204:x7_2<(x5_4.length:Int):=zd;obtain ⟨ad204,A204_0,c204_0,e204,hx204_0,hl204_0,hi204_0⟩:=at_L1 (Kd.N_reads' HO_5.out).2.2 x7_2 p204 q204;obtain rfl:(⟨go28,0,none⟩:Addr)=ad204:=(by injection e204);obtain ⟨ce204,hce204,hMe204,hcc204⟩:=Kd.N_get HO_5.out [] x7_2 p204 (by first|exact q204|exact zd|(have e_:=(Kd.N_reads' HO_5.out).1;omega));obtain ⟨ua204_0,uc204_0,rfl,ul204_0,ge204_0⟩:=Kd.FK_slice_open hMe204;have hv204_0:=hcc204 0 _ rfl;rw [Nat.add_zero,show ((Kd.slice 3 (Kd.int .i64))).sz=1 from rfl,Nat.mul_one] at hv204_0;replace hv204_0:=Option.some.inj (hv204_0.symm.trans hx204_0);injection hv204_0 with hva_ hvn_ hvc_
               rw [hva_] at ge204_0;rw [hvc_] at ul204_0;have HL204_0:=aM (show Kd.V (Kd.int .i64) 3 _ w.heap.size _ _ (rd_L1 x5_4 x7_2) from Kd.V_mk ul204_0 ge204_0);clear hva_ hvn_ hvc_ ge204_0 ul204_0 hcc204 hce204;(first|simp only [add_plain] at hx204_0|simp only [add_at] at hx204_0|simp only [Addr.add,Nat.zero_add] at hx204_0|skip);have HR204_0:=aM hi204_0;have HC204_0:=aM hl204_0;clear hi204_0 hl204_0;replace p204:=eq_true p204;replace q204:=eq_true q204;refine start_ (n:=14) (S:=fun w'=>w'.cell? ⟨go28,(x11_4).toNat,none⟩=some (.slice A203_0 (rd_L1 x5_4 x11_4).length c203_0)∧w'.cell? ⟨go28,(x7_2).toNat,none⟩=some (.slice A204_0 (rd_L1 x5_4 x7_2).length c204_0)) (ds:=[13]) #[ff,ff,ff,ff,ff,ff,ff,ff,ff,ff,ff,ff,ff,ff] (by kernel_rfl) rfl rfl ⟨hx203_0,hx204_0⟩ (fun hHeld=>?_);refine with_tabW spec_l5Reduce.tab21 spec_l5Reduce.bits21 (fun HT_ HW_=>?_);generalize wr.drew=w47 at HO_5 HL201_0 HR201_0 HB HL203_0 HL204_0 HR203_0 HR204_0 hx203_0 hx204_0 hHeld ⊢;refine pu 0 (some 88) #[tt,ff,ff,ff,ff,ff,ff,ff,ff,ff,ff,ff,ff,ff] rfl rfl HT_ ?_;refine pu 1 (some 89) #[tt,tt,ff,ff,ff,ff,ff,ff,ff,ff,ff,ff,ff,ff] rfl rfl HT_ ?_;refine pu 2 (some 90) #[tt,tt,tt,ff,ff,ff,ff,ff,ff,ff,ff,ff,ff,ff] rfl rfl HT_ ?_;refine pu 3 (some 91) #[tt,tt,tt,tt,ff,ff,ff,ff,ff,ff,ff,ff,ff,ff] rfl rfl HT_ ?_;refine pu 4 (some 92) #[tt,tt,tt,tt,tt,ff,ff,ff,ff,ff,ff,ff,ff,ff] rfl rfl HT_ ?_;refine pu 6 (some 94) #[tt,tt,tt,tt,tt,ff,tt,ff,ff,ff,ff,ff,ff,ff] rfl rfl HT_ ?_;refine pu 7 (some 95) #[tt,tt,tt,tt,tt,ff,tt,tt,ff,ff,ff,ff,ff,ff] rfl rfl HT_ ?_;refine pu 8 (some 96) #[tt,tt,tt,tt,tt,ff,tt,tt,tt,ff,ff,ff,ff,ff] rfl rfl HT_ ?_;refine pu 10 (some 98) #[tt,tt,tt,tt,tt,ff,tt,tt,tt,ff,tt,ff,ff,ff] rfl rfl HT_ ?_;refine take_ (i:=5) (N:=some 93) (v:=?_) (a':=?_) #[tt,tt,tt,tt,tt,tt,tt,tt,tt,ff,tt,ff,ff,ff] rfl rfl (take_ofW HT_.out HW_.out (by kernel_rfl)) (fun _ _ _ h=>h) (Or.inl ⟨by rfl,?_⟩) hHeld ?_ ?_;rotate_left
               ·rintro w' ⟨s0,s1⟩;go_simp;(with_reducible rfl)
               rotate_left
               ·simp only [Act.put,qa,qz,qs,i64_w,i32_w];rfl
               refine take_ (i:=9) (N:=some 97) (v:=?_) (a':=?_) #[tt,tt,tt,tt,tt,tt,tt,tt,tt,tt,tt,ff,ff,ff] rfl rfl (take_ofW HT_.out HW_.out (by kernel_rfl)) (fun _ _ _ h=>h) (Or.inl ⟨by rfl,?_⟩) hHeld ?_ ?_;rotate_left
               ·rintro w' ⟨s0,s1⟩;go_simp;(with_reducible rfl)
               rotate_left
               ·simp only [Act.put,qa,qz,qs,i64_w,i32_w];rfl
               refine one_ (i:=11) (N:=some 99) #[tt,tt,tt,tt,tt,tt,tt,tt,tt,tt,tt,tt,ff,ff] rfl rfl (one_of HT_.out (by kernel_rfl)) (by decide) (fun K hK=>?_);refine gs Try.func88 #[.slice A203_0 (rd_L1 x5_4 x11_4).length c203_0,.slice A204_0 (rd_L1 x5_4 x7_2).length c204_0,.int .i64 x8_2] ?_;(with_reducible refine (spec_l5Clear.calls k4 _ _ (rd_L1 x5_4 x11_4) _ _ (rd_L1 x5_4 x7_2) x8_2 t205 _ ?side1 ?side2 ?side3 ?side4 A45.out).mono ?_);(case side1=>exact zc HR203_0.out);(case side2=>exact HC203_0.out);(case side3=>exact zc HR204_0.out);(case side4=>exact HC204_0.out);rintro e w48 ⟨v206,rfl,ho0,hb⟩;obtain ⟨A206v,c206v,ev206,_,_⟩:=Kd.R_reads ho0;subst ev206;have HS0_:=(hb.cell (World.block_lt_of_cell? _ _ (hHeld.1))).trans (hHeld.1);have HS1_:=(hb.cell (World.block_lt_of_cell? _ _ (hHeld.2))).trans (hHeld.2);refine ⟨_,rfl,?_⟩;replace HO_5:=aM (Kd.N_elder' (zn HO_5.out) (Kd.R_base ho0) hb);replace HL201_0:=aM (Kd.V_elder' (zv HL201_0.out) (Kd.R_base ho0) hb);replace HL203_0:=aM (Kd.V_elder' (zv HL203_0.out) (Kd.R_base ho0) hb);replace HL204_0:=aM (Kd.V_elder' (zv HL204_0.out) (Kd.R_base ho0) hb);have HO207:=aM (Kd.R_lower (Kd.R_newM (M:=fun k_=>(w.heap.size≤k_)) ho0 (below_size (zb HB.out)) (fun k_ h_=>h_)) (below_size (zb HB.out)));replace HR201_0:=aM (Kd.C_below (zc HR201_0.out) hb);replace HR203_0:=aM (Kd.C_below (zc HR203_0.out) hb);replace HR204_0:=aM (Kd.C_below (zc HR204_0.out) hb);replace HB:=aM (below_step (zb HB.out) hb);(try clear hb);(try clear hb2);(try clear hk);(try clear hi);(try clear ho0);have p46:0≤(x11_4:Int):=zd;have q46:(x11_4:Int)<((x5_4.length:Int):Int):=zd;obtain ⟨ce46,hcl46,hM46,hcc46,hfr46⟩:=Kd.N_elem HO_5.out [] (x11_4:Int) p46 q46;obtain ⟨ua46_0,uc46_0,rfl,ul46_0,ge46_0⟩:=Kd.FK_slice_open hM46;have hx46_0:=hcc46 0 _ rfl;have hf46_0:=hfr46 0;(try simp only [show ((Kd.slice 3 (Kd.int .i64))).sz=1 from rfl,Nat.mul_one,Nat.add_zero] at hx46_0);(try simp only [show ((Kd.slice 3 (Kd.int .i64))).sz=1 from rfl,Nat.mul_one,Nat.add_zero] at hf46_0);clear hcl46 hcc46 hfr46;(try clear hM46);replace p46:=eq_true p46;replace q46:=eq_true q46;have HX49:=aM (show Kd.N (Kd.slice 3 (Kd.int .i64)) 23 _ w.heap.size (fun k_=>(w.heap.size≤k_)∧some k_≠((.slice A206v t205.length c206v:Value):Value).ownBlock) (.slice (some ⟨go28,0,none⟩) x5_4.length co31) x5_4 from (Kd.N_mono (HO_5.out) (fun k_ hk=>⟨hk.1,hk.2⟩)));replace HX49:=aM (show Kd.N (Kd.slice 3 (Kd.int .i64)) 23 _ w.heap.size (fun k_=>(w.heap.size≤k_)) (.slice (some ⟨go28,0,none⟩) x5_4.length co31) x5_4 from Kd.N_mono HX49.out (fun k_ hk=>hk.1));obtain ⟨ce49,hcl49,hM49,hcc49,hfr49⟩:=Kd.N_elem HX49.out [] (x11_4:Int) (zd) (by have h_:(x11_4:Int)<((x5_4.length:Int):Int):=zd;first|exact h_|(have e_:=(Kd.N_reads' HO_5.out).1;omega)|simpa using h_);obtain ⟨ua49_0,uc49_0,rfl,ul49_0,ge49_0⟩:=Kd.FK_slice_open hM49;have HP49:=(Kd.N_seg HX49.out (x11_4:Int) (zd) (by have h_:(x11_4:Int)<((x5_4.length:Int):Int):=zd;first|exact h_|(have e_:=(Kd.N_reads' HO_5.out).1;omega)|simpa using h_) (seg:=[(.slice A206v t205.length c206v:Value)]) (j:=0) hcl49 hcc49 (show 1≤1 from by decide) (x':=t205) (Kd.FK_slice_mk (Kd.R_reads' (Kd.R_mono (ok':=(fun k_=>((fun k_=>(w.heap.size≤k_))) k_∧k_≠go28)) (Kd.R_apart' (HO207.out) (Kd.N_typed HO_5.out) (by decide)) (fun k_ hk=>⟨hk.1.1,fun e_=>(hk.2) (by rw [e_];rfl)⟩))).2.1 (Kd.R_F (Kd.R_mono (ok':=(fun k_=>((fun k_=>(w.heap.size≤k_))) k_∧k_≠go28)) (Kd.R_apart' (HO207.out) (Kd.N_typed HO_5.out) (by decide)) (fun k_ hk=>⟨hk.1.1,fun e_=>(hk.2) (by rw [e_];rfl)⟩)))) (fun _ hk=>hk)).1;(try simp only [show ((Kd.slice 3 (Kd.int .i64))).sz=1 from rfl,Nat.mul_one,Nat.add_zero] at HP49);rw [← Ny208.out] at HP49;have HQ49:=aM HP49;clear hcl49 hcc49 hfr49 HP49;(try clear hM49);refine hK.out _ _ ⟨HS0_,HS1_⟩ (fun hHeld=>?_);clear hK K;refine norm_ (a':=?_) ?_ ?_;rotate_left
               ·show Act.put _ (some 99) _=_;simp only [Act.put,qa,qz,qs,i64_w,i32_w];rfl
               refine pu 12 (some 100) #[tt,tt,tt,tt,tt,tt,tt,tt,tt,tt,tt,tt,tt,ff] rfl rfl HT_ ?_;refine last_ (i:=13) (N:=none) #[tt,tt,tt,tt,tt,tt,tt,tt,tt,tt,tt,tt,tt,tt] rfl rfl (one_of HT_.out (by kernel_rfl)) (by decide) (fun K hK=>?_);refine skip_ (w1:=?_) (by rfl) rfl ?_ ?_;rotate_left
               ·go_simp;rfl
               refine hK.out _ _ ?_;clear hK K;refine done_ (done_of HT_.out (by kernel_rfl)) ?_;(try go_wp2);(try simp only [← hl5_4]);go_roundg k4;(case measure=>have:=HK1.out;have:=HK2.out;have:=HJ12.out;have:=HK4.out;omega);(case rel=>exact ⟨(y208),(wrap64 (x11_4+1)),zt,H',⟨by have:=HK1.out;have:=HK2.out;have:=HJ12.out;have:=HK4.out;omega⟩,⟨by (try simp only [hl5_4]);(with_reducible repeat (first|apply Kd.N_alloc|apply Kd.N_drewN|apply Kd.N_drew));exact HQ49.out⟩,⟨zs HB.out⟩⟩)
            ·rw [if_neg c37] at H;have c37b0:decide (x11_4<(x5_4.length:Int))=false:=decide_eq_false c37;clear c37;have H':=aM H;clear H;go_wp2;(try simp only [← hl5_4]);go_roundg k4;(case measure=>have:=HK1.out;have:=HK2.out;have:=HJ12.out;have:=HK4.out;omega);(case rel=>exact ⟨(x5_4),(wrap64 (x7_2+1)),(wrap64 (x8_2+1)),zt,zt,H',⟨by have:=HK1.out;have:=HK2.out;have:=HJ12.out;have:=HK4.out;omega⟩,⟨by (try simp only [hl5_4]);(with_reducible repeat (first|apply Kd.N_alloc|apply Kd.N_drewN|apply Kd.N_drew));exact HO_5.out⟩,⟨zb HB.out⟩⟩)
      ·rw [if_neg c12] at H;have c12b0:decide (x8_2<a1)=false:=decide_eq_false c12;clear c12;obtain rfl:=Option.some.inj H;go_wp2;go_ret;exact ⟨_,by first|rfl|(simp [errW_none,errW_some]<;>rfl)|(simp [*,errW_none,errW_some]<;>rfl),zn HO_5.out,zb HB.out⟩
end Go.Proofs.Ytojkepidkmkmpaa.PFnSpan
end
section
namespace Go.Proofs.Ytojkepidkmkmpaa.PFnSpan
open Go.Proofs.YtojkepidkmkmpaaW.PrintWords.Aside0 renaming mk → aM
open List renaming setIfInBounds_toArray → qa, set_cons_zero → qz, set_cons_succ → qs
open Bool renaming true → tt, false → ff
open Option renaming bind_eq_some_iff → bE

open Go.RowKit Go.Proofs.YtojkepidkmkmpaaW.PrintWords Go.Proofs.YtojkepidkmkmpaaW.PrintLast Go.Proofs.YtojkepidkmkmpaaW.PrintMore
attribute [local go_sem] max2_int min2_int max_two min_two max_three min_three max_four min_four
set_option linter.unusedVariables false
set_option linter.unusedSimpArgs false
def spec_ReduceRows.l0 : Nat → Int → List (List Int) → List (List Int) → Int → Option ((List (List Int)))
 | 0, _, _, _, _ => none
 | k + 1, x1, x5, x6, x7 => if x7 < (x6.length : Int) then (if 0 ≤ x7 then ((spec_l5Lead.f k (rd_L1 x6 x7)).bind fun t217 => (if t217 < x1 then ((some (([] : List Int) : List Int)).bind fun y218 => (if y218.length + (rd_L1 x6 x7).length < 17592186044416 then (if x5.length < 5864062014805 then (spec_ReduceRows.l0 k x1 (x5 ++ [(y218 ++ (rd_L1 x6 x7))]) x6 (wrap64 (x7 + 1))) else (none)) else (none))) else (spec_ReduceRows.l0 k x1 x5 x6 (wrap64 (x7 + 1))))) else (none)) else (some x5)
def spec_ReduceRows.f (k : Nat) (l0 : List (List Int)) (a1 : Int) : Option ((List (List Int))) := (some (([] : List (List Int)) : List (List Int))).bind fun y209 => ((spec_IsMatrix.f k l0 a1).bind fun t212 => (if t212 = true then ((spec_l5Reduce.f k l0 a1).bind fun t213 => (spec_ReduceRows.l0 k a1 y209 t213 0)) else (some y209)))
set_option maxHeartbeats 8000000 in
set_option maxRecDepth 100000 in
theorem spec_ReduceRows.calls (k : Nat) (A0 : Option Addr) (c0 : Nat) (l0 : List (List Int)) (a1 : Int) (r : List (List Int)) (w : World) (hr0 : Kd.C (Kd.slice 3 (Kd.int .i64)) w A0 l0.length l0) (hc0 : l0.length ≤ c0) (h : spec_ReduceRows.f k l0 a1 = some r) :
 Calls Try.prog 50 #[.slice A0 l0.length c0, .int .i64 a1] w fun e w' => ∃ v0_ : Value, e = .returned (v0_) ∧ Kd.N (Kd.slice 3 (Kd.int .i64)) 23 w' w.heap.size (fun k_ => (w.heap.size ≤ k_)) v0_ r ∧ Below w.heap.size w w' := by
 have HR0:=aM hr0;have HC0:=aM hc0;clear hr0 hc0;have HB:=aM (Below.refl w.heap.size w);have H:((some (([]:List (List Int)):List (List Int))).bind fun y209=>((spec_IsMatrix.f k l0 a1).bind fun t212=>(if t212=true then ((spec_l5Reduce.f k l0 a1).bind fun t213=>(spec_ReduceRows.l0 k a1 y209 t213 0)) else (some y209))))=some r:=h;clear h;obtain ⟨y209,hy209⟩:∃y_:List (List Int),y_=(([]:List (List Int))):=⟨_,rfl⟩;replace H:((spec_IsMatrix.f k l0 a1).bind fun t212=>(if t212=true then ((spec_l5Reduce.f k l0 a1).bind fun t213=>(spec_ReduceRows.l0 k a1 y209 t213 0)) else (some y209)))=some r:=(by first|(rw [hy209];with_reducible exact H)|(have H2_:=(Option.bind_some _ _).symm.trans H;rw [hy209];with_reducible exact H2_)|(have H2_:=(Option.bind_some _ _).symm.trans H;with_reducible exact H2_)|with_reducible exact H|(rw [hy209];exact H)|exact H);have Ny209:=aM hy209;clear hy209;obtain ⟨t212,A3,H⟩:=bz H;by_cases c4:t212=true
 ·subst c4;replace H:=ifT H;obtain ⟨t213,A5,H⟩:=bz H;have H':=aM H;clear H;go_enter Try.func50,Try.ntmps50;go_wp2_with (first|((with_reducible refine gate_dst (N:=8) rfl ?_);refine Kd.N_lit (Kd.slice 3 (Kd.int .i64)) _ 23 ?hg (N':=8) ?hd (xs:=([]:List (List Int))) (inner:=[]) (ok:=(fun k_=>(w.heap.size≤k_))) (okp:=(fun k_=>(w.heap.size≤k_))) ?hr ?hp (fun _ hk=>hk) ((show ∀k_,w.heap.size≤k_→(fun k_=>(w.heap.size≤k_)) k_ from fun k_ hk=>(Nat.le_trans (below_size (zb HB.out)) hk)) _ (Nat.le_refl _)) (Below.refl _ _) (Nat.le_refl _) (by simp) ?_;(case hd=>rfl);(case hg=>rfl);(case hr=>first|(go_simp;done)|(go_simp;rfl));(case hp=>exact (Reps.none _ _));intro v210 w6 ho7 hb hg_ hnew_;clear hg_ hnew_;(first|rw [← Ny209.out] at ho7|(simp only [Int.reduceToNat] at ho7;rw [← Ny209.out] at ho7));have HO211:=aM (Kd.N_lower ho7 (below_size (zb HB.out)));replace HB:=aM (below_step (zb HB.out) hb);clear hb ho7)|((with_reducible refine gate_callee (f:=41) rfl ?_);refine gm (some 11) Try.func41 #[.slice A0 l0.length c0,.int .i64 a1] ?_;(with_reducible refine (spec_IsMatrix.calls k _ _ l0 a1 true _ ?side1 ?side2 A3.out).mono ?_);(case side1=>exact zc (Kd.C_below HR0.out HB.out));(case side2=>exact HC0.out);rintro e w' ⟨rfl,⟨nd,rfl⟩⟩;refine ⟨_,rfl,?_⟩)|((with_reducible refine gate_callee (f:=90) rfl ?_);refine gm (some 16) Try.func90 #[.slice A0 l0.length c0,.int .i64 a1] ?_;(with_reducible refine (spec_l5Reduce.calls k _ _ l0 a1 t213 _ ?side1 ?side2 A5.out).mono ?_);(case side1=>repeat (first|exact (Kd.C_below HR0.out (zb HB.out))|(with_reducible refine Kd.C_alloc ?_ _)|(with_reducible refine Kd.C_drewN ?_ _)|(with_reducible refine Kd.C_drew ?_)));(case side2=>exact HC0.out);rintro e w8 ⟨v214,rfl,ho0,hb⟩;refine ⟨_,rfl,?_⟩;have HO215:=aM (Kd.N_lower (Kd.N_mono (ok':=fun k_=>(w.heap.size≤k_)∧some k_≠(v210:Value).ownBlock) ho0 (fun k_ hk_=>⟨(Nat.le_trans (below_size (zb HB.out)) hk_),(Kd.fresh' (Kd.N_lt (zn HO211.out)) k_ hk_)⟩)) (below_size (zb HB.out)));replace HO211:=aM (Kd.N_elder' (zn HO211.out) (by first|exact Kd.N_base ho0|exact Kd.S_base ho0) hb);replace HB:=aM (below_step (zb HB.out) hb);(try clear hb);(try clear hb2);(try clear hk);(try clear hi);(try clear ho0)));go_loopg [5,7] k (fun kq v5 v7 w'=>∃(x5_1:List (List Int)) (x7_1:Int),v7 = .int .i64 x7_1∧Aside0 (spec_ReduceRows.l0 kq a1 x5_1 t213 x7_1=some r)∧Aside0 (kq≤k)∧Aside0 (Kd.N (Kd.slice 3 (Kd.int .i64)) 23 w' w.heap.size (fun k_=>(w.heap.size≤k_)∧some k_≠(v214:Value).ownBlock) v5 x5_1)∧Aside0 (Kd.N (Kd.slice 3 (Kd.int .i64)) 23 w' w.heap.size (fun k_=>(w.heap.size≤k_)∧some k_≠(v5:Value).ownBlock) v214 t213)∧Aside0 (Below w.heap.size w w'));(case atStart=>exact ⟨(y209),(0),zt,H',⟨Nat.le_refl _⟩,⟨zn HO211.out⟩,⟨zn HO215.out⟩,⟨zb HB.out⟩⟩)
  case round=>
   clear H';(try clear p2);(try clear c4);(try clear c5);obtain ⟨x5_1,x7_1,rfl,HA,HK1,HO_5,HO_6,HB⟩:=hrel;cases gk with
   | zero=>exact absurd HA.out (by simp [spec_ReduceRows.l0])
   | succ k1=>
    have H:=HA.out;clear HA;simp only [spec_ReduceRows.l0] at H;by_cases c9:x7_1<(t213.length:Int)
    ·rw [if_pos c9] at H;have c9b0:decide (x7_1<(t213.length:Int))=true:=decide_eq_true c9;clear c9;obtain ⟨c10b0,H⟩:=iN H;obtain ⟨t217,A11,H⟩:=bz H;by_cases c12:t217<a1
     ·rw [if_pos c12] at H;have c12b0:decide (t217<a1)=true:=decide_eq_true c12;clear c12;obtain ⟨y218,hy218⟩:∃y_:List Int,y_=(([]:List Int)):=⟨_,rfl⟩;replace H:(if y218.length+(rd_L1 t213 x7_1).length<17592186044416 then (if x5_1.length<5864062014805 then (spec_ReduceRows.l0 k1 a1 (x5_1 ++ [(y218 ++ (rd_L1 t213 x7_1))]) t213 (wrap64 (x7_1+1))) else (none)) else (none))=some r:=(by first|(rw [hy218];with_reducible exact H)|(have H2_:=(Option.bind_some _ _).symm.trans H;rw [hy218];with_reducible exact H2_)|(have H2_:=(Option.bind_some _ _).symm.trans H;with_reducible exact H2_)|with_reducible exact H|(rw [hy218];exact H)|exact H);have Ny218:=aM hy218;clear hy218;by_cases c13:y218.length+(rd_L1 t213 x7_1).length<17592186044416
      ·rw [if_pos c13] at H;have LMc13:=aM c13;clear c13;obtain ⟨y222,hy222⟩:∃y_:List Int,y_=(y218 ++ (rd_L1 t213 x7_1)):=⟨_,rfl⟩;replace H:(if x5_1.length<5864062014805 then (spec_ReduceRows.l0 k1 a1 (x5_1 ++ [y222]) t213 (wrap64 (x7_1+1))) else (none))=some r:=(by first|(rw [hy222];with_reducible exact H)|(have H2_:=(Option.bind_some _ _).symm.trans H;rw [hy222];with_reducible exact H2_)|(have H2_:=(Option.bind_some _ _).symm.trans H;with_reducible exact H2_)|with_reducible exact H|(rw [hy222];exact H)|exact H);have Ny222:=aM hy222;clear hy222;by_cases c14:x5_1.length<5864062014805
       ·rw [if_pos c14] at H;have LMc14:=aM c14;clear c14;obtain ⟨y225,hy225⟩:∃y_:List (List Int),y_=(x5_1 ++ [y222]):=⟨_,rfl⟩;replace H:(spec_ReduceRows.l0 k1 a1 y225 t213 (wrap64 (x7_1+1)))=some r:=(by first|(rw [hy225];with_reducible exact H)|(have H2_:=(Option.bind_some _ _).symm.trans H;rw [hy225];with_reducible exact H2_)|(have H2_:=(Option.bind_some _ _).symm.trans H;with_reducible exact H2_)|with_reducible exact H|(rw [hy225];exact H)|exact H);have Ny225:=aM hy225;clear hy225;have H':=aM H;clear H;obtain ⟨Ao15,co15,eo15⟩:=Kd.N_slice HO_6.out;subst eo15;have p216:0≤(x7_1:Int):=zd;have q216:x7_1<(t213.length:Int):=zd;obtain ⟨ad216,A216_0,c216_0,e216,hx216_0,hl216_0,hi216_0⟩:=at_L1 (Kd.N_reads' HO_6.out).2.2 x7_1 p216 q216;cases e216;obtain ⟨ce216,hce216,hMe216,hcc216⟩:=Kd.N_get HO_6.out [] x7_1 p216 (by first|exact q216|exact zd|(have e_:=(Kd.N_reads' HO_6.out).1;omega));obtain ⟨ua216_0,uc216_0,rfl,ul216_0,ge216_0⟩:=Kd.FK_slice_open hMe216;have hv216_0:=hcc216 0 _ rfl;rw [Nat.add_zero,show ((Kd.slice 3 (Kd.int .i64))).sz=1 from rfl,Nat.mul_one] at hv216_0;replace hv216_0:=Option.some.inj (hv216_0.symm.trans hx216_0);injection hv216_0 with hva_ hvn_ hvc_
        rw [hva_] at ge216_0;rw [hvc_] at ul216_0;have HL216_0:=aM (show Kd.V (Kd.int .i64) 3 _ w.heap.size _ _ (rd_L1 t213 x7_1) from Kd.V_mk ul216_0 ge216_0);clear hva_ hvn_ hvc_ ge216_0 ul216_0 hcc216 hce216;have HR216_0:=aM hi216_0;have HC216_0:=aM hl216_0;clear hi216_0 hl216_0;replace p216:=eq_true p216;replace q216:=eq_true q216;go_wp2_with (first|((with_reducible refine gate_callee (f:=69) rfl ?_);refine gm (some 27) Try.func69 #[.slice A216_0 (rd_L1 t213 x7_1).length c216_0] ?_;(with_reducible refine (spec_l5Lead.calls k1 _ _ (rd_L1 t213 x7_1) t217 _ ?side1 ?side2 A11.out).mono ?_);(case side1=>exact zc HR216_0.out);(case side2=>exact HC216_0.out);rintro e w' ⟨rfl,⟨nd,rfl⟩⟩;refine ⟨_,rfl,?_⟩)|((with_reducible refine gate_dst (N:=31) rfl ?_);refine Kd.R_lit (Kd.int .i64) _ 3 ?hg (N:=31) ?hd (xs:=([]:List Int)) (inner:=[]) (ok:=fun _=>True) (okp:=fun _=>True) ?hr ?hp (fun _ hk=>hk) trivial (Below.refl _ _) (Nat.le_refl _) (by simp) ?_;(case hd=>rfl);(case hg=>rfl);(case hr=>first|(go_simp;done)|(go_simp;rfl));(case hp=>exact (Reps.none _ _));intro v219 w16 ho17 hb hg_ hnew_;clear hg_ hnew_;(first|rw [← Ny218.out] at ho17|(simp only [Int.reduceToNat] at ho17;rw [← Ny218.out] at ho17));replace HO_5:=aM (Kd.N_elder' (zn HO_5.out) (Kd.R_base ho17) hb);replace HO_6:=aM (Kd.N_elder' (zn HO_6.out) (Kd.R_base ho17) hb);replace HL216_0:=aM (Kd.V_elder' (zv HL216_0.out) (Kd.R_base ho17) hb);have HO220:=aM (Kd.R_lower (Kd.R_newM (M:=fun k_=>(w.heap.size≤k_)) ho17 (below_size (zb HB.out)) (fun k_ h_=>h_)) (below_size (zb HB.out)));replace HR216_0:=aM (Kd.C_below (zc HR216_0.out) hb);replace HB:=aM (below_step (zb HB.out) hb);clear hb ho17;have p221:0≤(x7_1:Int):=zd;have q221:x7_1<(t213.length:Int):=zd;obtain ⟨ad221,A221_0,c221_0,e221,hx221_0,hl221_0,hi221_0⟩:=at_L1 (Kd.N_reads' HO_6.out).2.2 x7_1 p221 q221;obtain rfl:ad216=ad221:=(by injection e221);obtain ⟨ce221,hce221,hMe221,hcc221⟩:=Kd.N_get HO_6.out [] x7_1 p221 (by first|exact q221|exact zd|(have e_:=(Kd.N_reads' HO_6.out).1;omega));obtain ⟨ua221_0,uc221_0,rfl,ul221_0,ge221_0⟩:=Kd.FK_slice_open hMe221;have hv221_0:=hcc221 0 _ rfl;rw [Nat.add_zero,show ((Kd.slice 3 (Kd.int .i64))).sz=1 from rfl,Nat.mul_one] at hv221_0;replace hv221_0:=Option.some.inj (hv221_0.symm.trans hx221_0);injection hv221_0 with hva_ hvn_ hvc_;rw [hva_] at ge221_0;rw [hvc_] at ul221_0;have HL221_0:=aM (show Kd.V (Kd.int .i64) 3 _ w.heap.size _ _ (rd_L1 t213 x7_1) from Kd.V_mk ul221_0 ge221_0);clear hva_ hvn_ hvc_ ge221_0 ul221_0 hcc221 hce221;have HR221_0:=aM hi221_0;have HC221_0:=aM hl221_0;clear hi221_0 hl221_0;replace p221:=eq_true p221;replace q221:=eq_true q221)|((with_reducible refine gate_builtin (b:=.append) (xs:=#[.tmp 31,.tmp 35]) rfl ?_);at_builtin;refine Kd.R_append_rows (Kd.int .i64) (w0:=w) w.heap.size rfl (.tmp 31) (.tmp 35) 23 3 (.int .i64 0) 8 rfl Try.underlying23 info3 rfl (by decide) (by omega) v219 y218 (rd_L1 t213 x7_1) _ _ _ (fun k_=>(w.heap.size≤k_)) (fun _=>False) rfl rfl ?aO ?aR (fun _ _ h=>h) (fun _ h=>h.elim) ?aF ?aB ?aS ?aL ?_;(case aR=>exact zc HR221_0.out);(case aB=>exact (zb HB.out));(case aF=>exact (fun k_ hk=>(Nat.le_trans (below_size (zb HB.out)) hk)));(case aO=>exact (by (with_reducible repeat (first|apply Kd.R_alloc|apply Kd.R_drewN|apply Kd.R_drew));exact Kd.R_mono HO220.out (fun _ hk=>hk.1)));(case aS=>exact (below_size (zb HB.out)));(case aL=>have:=LMc13.out;omega);intro v223 w18 ho hb hg hat;rw [← Ny222.out] at ho;replace HO_5:=aM (Kd.N_afterv (ok:=(fun k_=>(w.heap.size≤k_)∧some k_≠(.slice (some ad216) t213.length co15:Value).ownBlock)) (zn HO_5.out) hg hat);replace HO_6:=aM (Kd.N_afterv (ok:=(fun k_=>(w.heap.size≤k_)∧some k_≠(u5:Value).ownBlock)) (zn HO_6.out) hg hat);replace HL216_0:=aM (Kd.V_afterv (ok:=(fun k_=>(w.heap.size≤k_)∧some k_≠(u5:Value).ownBlock∧some k_≠(.slice (some ad216) t213.length co15:Value).ownBlock)) (by (with_reducible repeat (first|apply Kd.V_alloc|apply Kd.V_drewN|apply Kd.V_drew));exact Kd.V_mono HL216_0.out (fun _ hk=>⟨⟨hk.1.1.1,⟨hk.1.1.2,hk.1.2⟩⟩,hk.2⟩)) hg hat);replace HL221_0:=aM (Kd.V_afterv (ok:=(fun k_=>(w.heap.size≤k_)∧some k_≠(u5:Value).ownBlock∧some k_≠(.slice (some ad216) t213.length co15:Value).ownBlock)) (by (with_reducible repeat (first|apply Kd.V_alloc|apply Kd.V_drewN|apply Kd.V_drew));exact Kd.V_mono HL221_0.out (fun _ hk=>⟨⟨hk.1.1.1,⟨hk.1.1.2,hk.2⟩⟩,hk.1.2⟩)) hg hat);replace HB:=aM (hb);have HO224:=aM (ho);clear HO220 ho hb hg hat;obtain ⟨Ao20,co20,eo20⟩:=Kd.R_slice HO224.out;subst eo20)|((with_reducible refine gate_builtin (b:=.append) (xs:=#[.tmp 30,.tmp 37]) rfl ?_);at_builtin;refine Kd.N_append (Kd.slice 3 (Kd.int .i64)) (w0:=w) w.heap.size rfl (.tmp 30) (.tmp 37) 22 23 (.slice none 0 0) 24 rfl Try.underlying22 info23 rfl (by decide) (by omega) u5 x5_1 y222 [.slice Ao20 y222.length co20] (fun k_=>(w.heap.size≤k_)∧some k_≠(.slice (some ad216) t213.length co15:Value).ownBlock) (fun k_=>((fun k_=>(w.heap.size≤k_)∧some k_≠(.slice (some ad216) t213.length co15:Value).ownBlock)) k_∧some k_≠(u5:Value).ownBlock) rfl rfl ?aP (fun _ hk=>hk) ?aF ?aO ?aB ?aS ?aL ?_;(case aP=>exact (Kd.FK_slice_mk (Kd.R_reads' (Kd.R_mono (ok':=(fun k_=>((fun k_=>(w.heap.size≤k_)∧some k_≠(.slice (some ad216) t213.length co15:Value).ownBlock)) k_∧some k_≠(u5:Value).ownBlock)) (Kd.R_apart' (Kd.R_apart' (HO224.out) (Kd.N_typed HO_6.out) (by decide)) (Kd.N_typed HO_5.out) (by decide)) (fun k_ hk=>⟨⟨hk.1.1,hk.1.2⟩,hk.2⟩))).2.1 (Kd.R_F (Kd.R_mono (ok':=(fun k_=>((fun k_=>(w.heap.size≤k_)∧some k_≠(.slice (some ad216) t213.length co15:Value).ownBlock)) k_∧some k_≠(u5:Value).ownBlock)) (Kd.R_apart' (Kd.R_apart' (HO224.out) (Kd.N_typed HO_6.out) (by decide)) (Kd.N_typed HO_5.out) (by decide)) (fun k_ hk=>⟨⟨hk.1.1,hk.1.2⟩,hk.2⟩)))));(case aB=>exact (zb HB.out));(case aF=>exact (fun k_ hk=>⟨(Nat.le_trans (below_size (zb HB.out)) hk),Kd.fresh' (Kd.N_lt (zn HO_6.out)) k_ hk⟩));(case aO=>exact (by (with_reducible repeat (first|apply Kd.N_alloc|apply Kd.N_drewN|apply Kd.N_drew));exact Kd.N_mono HO_5.out (fun _ hk=>⟨hk.1.1,hk.1.2⟩)));(case aS=>exact (below_size (zb HB.out)));(case aL=>have:=LMc14.out;omega);intro v226 w19 ho hb hg hat;rw [← Ny225.out] at ho;replace HO_6:=aM (Kd.N_afterv (ok:=(fun k_=>(w.heap.size≤k_)∧some k_≠(.slice Ao20 y222.length co20:Value).ownBlock)) (by (with_reducible repeat (first|apply Kd.N_alloc|apply Kd.N_drewN|apply Kd.N_drew));exact Kd.N_mono HO_6.out (fun _ hk=>⟨⟨hk.1.1,hk.2⟩,hk.1.2⟩)) hg hat);replace HL216_0:=aM (Kd.V_afterv (ok:=(fun k_=>(w.heap.size≤k_)∧some k_≠(.slice (some ad216) t213.length co15:Value).ownBlock∧some k_≠(.slice Ao20 y222.length co20:Value).ownBlock)) (by (with_reducible repeat (first|apply Kd.V_alloc|apply Kd.V_drewN|apply Kd.V_drew));exact Kd.V_mono HL216_0.out (fun _ hk=>⟨⟨hk.1.1,⟨hk.1.2.2,hk.2⟩⟩,hk.1.2.1⟩)) hg hat);replace HL221_0:=aM (Kd.V_afterv (ok:=(fun k_=>(w.heap.size≤k_)∧some k_≠(.slice (some ad216) t213.length co15:Value).ownBlock∧some k_≠(.slice Ao20 y222.length co20:Value).ownBlock)) (by (with_reducible repeat (first|apply Kd.V_alloc|apply Kd.V_drewN|apply Kd.V_drew));exact Kd.V_mono HL221_0.out (fun _ hk=>⟨⟨hk.1.1,⟨hk.1.2.2,hk.2⟩⟩,hk.1.2.1⟩)) hg hat);replace HB:=aM (hb);have HO227:=aM (ho);clear HO_5 HO224 ho hb hg hat));go_roundg k1;(case measure=>have:=HK1.out;omega);(case rel=>exact ⟨(y225),(wrap64 (x7_1+1)),zt,H',⟨by have:=HK1.out;omega⟩,⟨zn HO227.out⟩,⟨by (with_reducible repeat (first|apply Kd.N_alloc|apply Kd.N_drewN|apply Kd.N_drew));exact Kd.N_mono HO_6.out (fun _ hk=>⟨hk.1.1,hk.2⟩)⟩,⟨zb HB.out⟩⟩)
       ·rw [if_neg c14] at H;exact absurd H (by simp)
      ·rw [if_neg c13] at H;exact absurd H (by simp)
     ·rw [if_neg c12] at H;have c12b0:decide (t217<a1)=false:=decide_eq_false c12;clear c12;have H':=aM H;clear H;obtain ⟨Ao21,co21,eo21⟩:=Kd.N_slice HO_6.out;subst eo21;have p216:0≤(x7_1:Int):=zd;have q216:x7_1<(t213.length:Int):=zd;obtain ⟨ad216,A216_0,c216_0,e216,hx216_0,hl216_0,hi216_0⟩:=at_L1 (Kd.N_reads' HO_6.out).2.2 x7_1 p216 q216;cases e216;obtain ⟨ce216,hce216,hMe216,hcc216⟩:=Kd.N_get HO_6.out [] x7_1 p216 (by first|exact q216|exact zd|(have e_:=(Kd.N_reads' HO_6.out).1;omega));obtain ⟨ua216_0,uc216_0,rfl,ul216_0,ge216_0⟩:=Kd.FK_slice_open hMe216;have hv216_0:=hcc216 0 _ rfl;rw [Nat.add_zero,show ((Kd.slice 3 (Kd.int .i64))).sz=1 from rfl,Nat.mul_one] at hv216_0;replace hv216_0:=Option.some.inj (hv216_0.symm.trans hx216_0);injection hv216_0 with hva_ hvn_ hvc_
      rw [hva_] at ge216_0;rw [hvc_] at ul216_0;have HL216_0:=aM (show Kd.V (Kd.int .i64) 3 _ w.heap.size _ _ (rd_L1 t213 x7_1) from Kd.V_mk ul216_0 ge216_0);clear hva_ hvn_ hvc_ ge216_0 ul216_0 hcc216 hce216;have HR216_0:=aM hi216_0;have HC216_0:=aM hl216_0;clear hi216_0 hl216_0;replace p216:=eq_true p216;replace q216:=eq_true q216;go_wp2_with (first|((with_reducible refine gate_callee (f:=69) rfl ?_);refine gm (some 27) Try.func69 #[.slice A216_0 (rd_L1 t213 x7_1).length c216_0] ?_;(with_reducible refine (spec_l5Lead.calls k1 _ _ (rd_L1 t213 x7_1) t217 _ ?side1 ?side2 A11.out).mono ?_);(case side1=>exact zc HR216_0.out);(case side2=>exact HC216_0.out);rintro e w' ⟨rfl,⟨nd,rfl⟩⟩;refine ⟨_,rfl,?_⟩));go_roundg k1;(case measure=>have:=HK1.out;omega);(case rel=>exact ⟨(x5_1),(wrap64 (x7_1+1)),zt,H',⟨by have:=HK1.out;omega⟩,⟨zn HO_5.out⟩,⟨zn HO_6.out⟩,⟨zb HB.out⟩⟩)
    ·rw [if_neg c9] at H;have c9b0:decide (x7_1<(t213.length:Int))=false:=decide_eq_false c9;clear c9;obtain rfl:=Option.some.inj H;obtain ⟨Ao22,co22,eo22⟩:=Kd.N_slice HO_6.out;subst eo22;go_wp2;go_ret;exact ⟨_,by first|rfl|(simp [errW_none,errW_some]<;>rfl)|(simp [*,errW_none,errW_some]<;>rfl),by (with_reducible repeat (first|apply Kd.N_alloc|apply Kd.N_drewN|apply Kd.N_drew));exact Kd.N_mono HO_5.out (fun _ hk=>hk.1),zb HB.out⟩
 ·replace c4:=Bool.eq_false_iff.mpr c4;subst c4;replace H:=ifF H;obtain rfl:=Option.some.inj H;go_enter Try.func50,Try.ntmps50;go_wp2_with (first|((with_reducible refine gate_dst (N:=8) rfl ?_);refine Kd.N_lit (Kd.slice 3 (Kd.int .i64)) _ 23 ?hg (N':=8) ?hd (xs:=([]:List (List Int))) (inner:=[]) (ok:=(fun k_=>(w.heap.size≤k_))) (okp:=(fun k_=>(w.heap.size≤k_))) ?hr ?hp (fun _ hk=>hk) ((show ∀k_,w.heap.size≤k_→(fun k_=>(w.heap.size≤k_)) k_ from fun k_ hk=>(Nat.le_trans (below_size (zb HB.out)) hk)) _ (Nat.le_refl _)) (Below.refl _ _) (Nat.le_refl _) (by simp) ?_;(case hd=>rfl);(case hg=>rfl);(case hr=>first|(go_simp;done)|(go_simp;rfl));(case hp=>exact (Reps.none _ _));intro v210 w23 ho24 hb hg_ hnew_;clear hg_ hnew_;(first|rw [← Ny209.out] at ho24|(simp only [Int.reduceToNat] at ho24;rw [← Ny209.out] at ho24));have HO211:=aM (Kd.N_lower ho24 (below_size (zb HB.out)));replace HB:=aM (below_step (zb HB.out) hb);clear hb ho24)|((with_reducible refine gate_callee (f:=41) rfl ?_);refine gm (some 11) Try.func41 #[.slice A0 l0.length c0,.int .i64 a1] ?_;(with_reducible refine (spec_IsMatrix.calls k _ _ l0 a1 false _ ?side1 ?side2 A3.out).mono ?_);(case side1=>exact zc (Kd.C_below HR0.out HB.out));(case side2=>exact HC0.out);rintro e w' ⟨rfl,⟨nd,rfl⟩⟩;refine ⟨_,rfl,?_⟩));go_ret;exact ⟨_,by first|rfl|(simp [errW_none,errW_some]<;>rfl)|(simp [*,errW_none,errW_some]<;>rfl),zn HO211.out,zb HB.out⟩
def spec_l5Both.f (k : Nat) (l0 : List (List Int)) (l1 : List Int) : Option (Bool) := (spec_IsMatrix.f k l0 (l1.length : Int)).bind fun t228 => (if t228 = true then ((spec_IsMatrix.f k (([l1] : List (List Int))) (l1.length : Int)).bind fun t232 => (some t232)) else (some false))
set_option maxHeartbeats 8000000 in
set_option maxRecDepth 100000 in
theorem spec_l5Both.calls (k : Nat) (A0 : Option Addr) (c0 : Nat) (l0 : List (List Int)) (P1_ : Nat → Prop) (A1 : Option Addr) (c1 : Nat) (l1 : List Int) (r : Bool) (w : World) (hr0 : Kd.C (Kd.slice 3 (Kd.int .i64)) w A0 l0.length l0) (hc0 : l0.length ≤ c0) (hs1 : Kd.V (Kd.int .i64) 3 w w.heap.size (fun k_ => P1_ k_) (.slice A1 l1.length c1) l1) (h : spec_l5Both.f k l0 l1 = some r) :
 Calls Try.prog 87 #[.slice A0 l0.length c0, .slice A1 l1.length c1] w fun e w' => e = .returned (.bool r) ∧ Below w.heap.size w w' := by
 have HR0:=aM hr0;have HC0:=aM hc0;clear hr0 hc0;have HO1:=aM (show Kd.V (Kd.int .i64) 3 w w.heap.size (fun k_=>(P1_ k_∨w.heap.size≤k_)) (.slice A1 l1.length c1) l1 from Kd.V_mono hs1 (fun k_ hk=>.inl hk));have HB:=aM (Below.refl w.heap.size w);have H:((spec_IsMatrix.f k l0 (l1.length:Int)).bind fun t228=>(if t228=true then ((spec_IsMatrix.f k (([l1]:List (List Int))) (l1.length:Int)).bind fun t232=>(some t232)) else (some false)))=some r:=h;clear h;obtain ⟨t228,A3,H⟩:=bz H;by_cases c4:t228=true
 ·subst c4;replace H:=ifT H;obtain ⟨y229,hy229⟩:∃y_:List (List Int),y_=(([l1]:List (List Int))):=⟨_,rfl⟩;replace H:((spec_IsMatrix.f k y229 (l1.length:Int)).bind fun t232=>(some t232))=some r:=(by first|(rw [hy229];with_reducible exact H)|(have H2_:=(Option.bind_some _ _).symm.trans H;rw [hy229];with_reducible exact H2_)|(have H2_:=(Option.bind_some _ _).symm.trans H;with_reducible exact H2_)|with_reducible exact H|(rw [hy229];exact H)|exact H);have Ny229:=aM hy229;clear hy229;obtain ⟨t232,A5,H⟩:=bz H;obtain rfl:=Option.some.inj H;go_enter Try.func87,Try.ntmps87;go_wp2_with ((with_reducible refine gate_callee (f:=41) rfl ?_);refine gm (some 8) Try.func41 #[.slice A0 l0.length c0,.int .i64 (l1.length:Int)] ?_;(with_reducible refine (spec_IsMatrix.calls k _ _ l0 (l1.length:Int) true _ ?side1 ?side2 A3.out).mono ?_);(case side1=>exact zc HR0.out);(case side2=>exact HC0.out);rintro e w' ⟨rfl,⟨nd,rfl⟩⟩;refine ⟨_,rfl,?_⟩);have A5b:=aM (show spec_IsMatrix.f k ([l1]:List (List Int)) (l1.length:Int)=some t232 by rw [← Ny229.out];exact A5.out);refine (spec_IsMatrix.calls k _ _ ([l1]:List (List Int)) (l1.length:Int) t232 _ ?sideA ?sideB A5b.out).mono ?_;(case sideA=>exact YtojkepidkmkmpaaRed.one_C (Kd.C_alloc (Kd.C_drewN (Kd.V_reads' HO1.out).2.2 _) _) (Kd.V_reads' HO1.out).2.1 (YtojkepidkmkmpaaRed.cell_new _ _ _));(case sideB=>exact Nat.le_refl _);rintro e w' ⟨rfl,⟨nd2_,rfl⟩⟩;go_wp2;go_ret;exact ⟨by first|rfl|(simp [errW_none,errW_some]<;>rfl)|(simp [*,errW_none,errW_some]<;>rfl),zb HB.out⟩
 ·replace c4:=Bool.eq_false_iff.mpr c4;subst c4;replace H:=ifF H;obtain rfl:=Option.some.inj H;go_enter Try.func87,Try.ntmps87;go_wp2_with (first|((with_reducible refine gate_callee (f:=41) rfl ?_);refine gm (some 8) Try.func41 #[.slice A0 l0.length c0,.int .i64 (l1.length:Int)] ?_;(with_reducible refine (spec_IsMatrix.calls k _ _ l0 (l1.length:Int) false _ ?side1 ?side2 A3.out).mono ?_);(case side1=>exact zc HR0.out);(case side2=>exact HC0.out);rintro e w' ⟨rfl,⟨nd,rfl⟩⟩;refine ⟨_,rfl,?_⟩));go_ret;exact ⟨by first|rfl|(simp [errW_none,errW_some]<;>rfl)|(simp [*,errW_none,errW_some]<;>rfl),zb HB.out⟩
def spec_IsInSpan.l0 : Nat → List Int → List (List Int) → Int → Option (Bool)
 | 0, _, _, _ => none
 | k + 1, x5, x6, x7 => if x7 < (x6.length : Int) then (if 0 ≤ x7 then ((spec_l5Lead.f k (rd_L1 x6 x7)).bind fun t245 => (if 0 ≤ t245 then (if t245 < (x5.length : Int) then (if (rd x5 t245) = 0 then (spec_IsInSpan.l0 k x5 x6 (wrap64 (x7 + 1))) else ((spec_l5Clear.f k x5 (rd_L1 x6 x7) t245).bind fun t248 => (spec_IsInSpan.l0 k t248 x6 (wrap64 (x7 + 1))))) else (none)) else (none))) else (none)) else ((spec_l5Lead.f k x5).bind fun t243 => (some (t243 == (x5.length : Int))))
def spec_IsInSpan.f (k : Nat) (l0 : List (List Int)) (l1 : List Int) : Option (Bool) := (spec_l5Both.f k l0 l1).bind fun t233 => (if t233 = true then ((some (([] : List Int) : List Int)).bind fun y234 => (if y234.length + l1.length < 17592186044416 then ((spec_ReduceRows.f k l0 (l1.length : Int)).bind fun t240 => (spec_IsInSpan.l0 k (y234 ++ l1) t240 0)) else (none))) else (some false))
set_option maxHeartbeats 8000000 in
set_option maxRecDepth 100000 in
theorem spec_IsInSpan.calls (k : Nat) (A0 : Option Addr) (c0 : Nat) (l0 : List (List Int)) (A1 : Option Addr) (c1 : Nat) (l1 : List Int) (r : Bool) (w : World) (hr0 : Kd.C (Kd.slice 3 (Kd.int .i64)) w A0 l0.length l0) (hc0 : l0.length ≤ c0) (hr1 : Kd.C (Kd.int .i64) w A1 l1.length l1) (hc1 : l1.length ≤ c1) (h : spec_IsInSpan.f k l0 l1 = some r) :
 Calls Try.prog 48 #[.slice A0 l0.length c0, .slice A1 l1.length c1] w fun e w' => e = .returned (.bool r) ∧ Below w.heap.size w w' := by
 have HR0:=aM hr0;have HC0:=aM hc0;clear hr0 hc0;have HR1:=aM hr1;have HC1:=aM hc1;clear hr1 hc1;have HB:=aM (Below.refl w.heap.size w);have H:((spec_l5Both.f k l0 l1).bind fun t233=>(if t233=true then ((some (([]:List Int):List Int)).bind fun y234=>(if y234.length+l1.length<17592186044416 then ((spec_ReduceRows.f k l0 (l1.length:Int)).bind fun t240=>(spec_IsInSpan.l0 k (y234 ++ l1) t240 0)) else (none))) else (some false)))=some r:=h;clear h;obtain ⟨t233,A3,H⟩:=bz H;by_cases c4:t233=true
 ·subst c4;replace H:=ifT H;obtain ⟨y234,hy234⟩:∃y_:List Int,y_=(([]:List Int)):=⟨_,rfl⟩;replace H:(if y234.length+l1.length<17592186044416 then ((spec_ReduceRows.f k l0 (l1.length:Int)).bind fun t240=>(spec_IsInSpan.l0 k (y234 ++ l1) t240 0)) else (none))=some r:=(by first|(rw [hy234];with_reducible exact H)|(have H2_:=(Option.bind_some _ _).symm.trans H;rw [hy234];with_reducible exact H2_)|(have H2_:=(Option.bind_some _ _).symm.trans H;with_reducible exact H2_)|with_reducible exact H|(rw [hy234];exact H)|exact H);have Ny234:=aM hy234;clear hy234;by_cases c5:y234.length+l1.length<17592186044416
  ·rw [if_pos c5] at H;have LMc5:=aM c5;clear c5;obtain ⟨y237,hy237⟩:∃y_:List Int,y_=(y234 ++ l1):=⟨_,rfl⟩;replace H:((spec_ReduceRows.f k l0 (l1.length:Int)).bind fun t240=>(spec_IsInSpan.l0 k y237 t240 0))=some r:=(by first|(rw [hy237];with_reducible exact H)|(have H2_:=(Option.bind_some _ _).symm.trans H;rw [hy237];with_reducible exact H2_)|(have H2_:=(Option.bind_some _ _).symm.trans H;with_reducible exact H2_)|with_reducible exact H|(rw [hy237];exact H)|exact H);have Ny237:=aM hy237;clear hy237;obtain ⟨t240,A6,H⟩:=bz H;have H':=aM H;clear H;go_enter Try.func48,Try.ntmps48;go_wp2_with (first|((with_reducible refine gate_callee (f:=87) rfl ?_);refine gm (some 11) Try.func87 #[.slice A0 l0.length c0,.slice A1 l1.length c1] ?_;(with_reducible refine (spec_l5Both.calls k _ _ l0 (fun k_=>k_<w.heap.size) _ _ l1 true _ ?side1 ?side2 ?side3 A3.out).mono ?_);(case side1=>exact zc HR0.out);(case side2=>exact HC0.out);(case side3=>exact Kd.V_mk HC1.out (Kd.F_below (Kd.C_F (Kd.heap_int .i64) HR1.out) (zb HB.out)));rintro e w7 ⟨rfl,hb⟩;refine ⟨_,rfl,?_⟩;replace HB:=aM (below_step (zb HB.out) hb);(try clear hb);(try clear hb2);(try clear hk);(try clear hi))|((with_reducible refine gate_dst (N:=13) rfl ?_);refine Kd.R_lit (Kd.int .i64) _ 3 ?hg (N:=13) ?hd (xs:=([]:List Int)) (inner:=[]) (ok:=fun _=>True) (okp:=fun _=>True) ?hr ?hp (fun _ hk=>hk) trivial (Below.refl _ _) (Nat.le_refl _) (by simp) ?_;(case hd=>rfl);(case hg=>rfl);(case hr=>first|(go_simp;done)|(go_simp;rfl));(case hp=>exact (Reps.none _ _));intro v235 w8 ho9 hb hg_ hnew_;clear hg_ hnew_;(first|rw [← Ny234.out] at ho9|(simp only [Int.reduceToNat] at ho9;rw [← Ny234.out] at ho9));have HO236:=aM (Kd.R_lower ho9 (below_size (zb HB.out)));replace HB:=aM (below_step (zb HB.out) hb);clear hb ho9)|((with_reducible refine gate_builtin (b:=.append) (xs:=#[.tmp 13,.tmp 14]) rfl ?_);at_builtin;refine Kd.R_append_rows (Kd.int .i64) (w0:=w) w.heap.size rfl (.tmp 13) (.tmp 14) 23 3 (.int .i64 0) 8 rfl Try.underlying23 info3 rfl (by decide) (by omega) v235 y234 l1 _ _ _ (fun _=>True) (fun _=>False) rfl rfl ?aO ?aR (fun _ _ h=>h) (fun _ h=>h.elim) ?aF ?aB ?aS ?aL ?_;(case aR=>exact zc (Kd.C_below HR1.out HB.out));(case aB=>exact (zb HB.out));(case aF=>exact (fun _ _=>trivial));(case aO=>exact (zr HO236.out));(case aS=>exact (below_size (zb HB.out)));(case aL=>have:=LMc5.out;omega);intro v238 w10 ho hb hg hat;rw [← Ny237.out] at ho;replace HB:=aM (hb);have HO239:=aM (ho);clear HO236 ho hb hg hat)|((with_reducible refine gate_callee (f:=50) rfl ?_);refine gm (some 19) Try.func50 #[.slice A0 l0.length c0,.int .i64 (l1.length:Int)] ?_;(with_reducible refine (spec_ReduceRows.calls k _ _ l0 (l1.length:Int) t240 _ ?side1 ?side2 A6.out).mono ?_);(case side1=>exact zc (Kd.C_below HR0.out HB.out));(case side2=>exact HC0.out);rintro e w11 ⟨v241,rfl,ho0,hb⟩;refine ⟨_,rfl,?_⟩;have HO242:=aM (Kd.N_lower (Kd.N_mono (ok':=fun k_=>some k_≠(v238:Value).ownBlock) ho0 (fun k_ hk_=>(Kd.fresh' (Kd.R_lt (zr HO239.out)) k_ hk_))) (below_size (zb HB.out)));replace HO239:=aM (Kd.R_below (zr HO239.out) hb);replace HB:=aM (below_step (zb HB.out) hb);(try clear hb);(try clear hb2);(try clear hk);(try clear hi);(try clear ho0)));go_loopg [5,7] k (fun kq v5 v7 w'=>∃(x5_1:List Int) (x7_1:Int),v7 = .int .i64 x7_1∧Aside0 (spec_IsInSpan.l0 kq x5_1 t240 x7_1=some r)∧Aside0 (kq≤k)∧Aside0 (Kd.R (Kd.int .i64) 3 w' w.heap.size (fun _=>True) v5 x5_1)∧Aside0 (Kd.N (Kd.slice 3 (Kd.int .i64)) 23 w' w.heap.size (fun k_=>some k_≠(v5:Value).ownBlock) v241 t240)∧Aside0 (Below w.heap.size w w'));(case atStart=>exact ⟨(y237),(0),zt,H',⟨Nat.le_refl _⟩,⟨zr HO239.out⟩,⟨zn HO242.out⟩,⟨zb HB.out⟩⟩)
   case round=>
    clear H';(try clear c1);(try clear p2);(try clear c4);(try clear c5);(try clear c8);obtain ⟨x5_1,x7_1,rfl,HA,HK1,HO_5,HO_6,HB⟩:=hrel;cases gk with
    | zero=>exact absurd HA.out (by simp [spec_IsInSpan.l0])
    | succ k1=>
     have H:=HA.out;clear HA;simp only [spec_IsInSpan.l0] at H;by_cases c12:x7_1<(t240.length:Int)
     ·rw [if_pos c12] at H;have c12b0:decide (x7_1<(t240.length:Int))=true:=decide_eq_true c12;clear c12;obtain ⟨c13b0,H⟩:=iN H;obtain ⟨t245,A14,H⟩:=bz H;obtain ⟨c15b0,H⟩:=iN H;obtain ⟨c16b0,H⟩:=iN H;by_cases c17:(rd x5_1 t245)=0
      ·rw [if_pos c17] at H;have c17b0:((rd x5_1 t245) == 0)=true:=beq_iff_eq.mpr c17;have c17b1:((rd x5_1 t245) != 0)=false:=bne_eq_false_iff_eq.mpr c17;clear c17;have H':=aM H;clear H;obtain ⟨Ao18,co18,eo18⟩:=Kd.N_slice HO_6.out;subst eo18;have p244:0≤(x7_1:Int):=zd;have q244:x7_1<(t240.length:Int):=zd;obtain ⟨ad244,A244_0,c244_0,e244,hx244_0,hl244_0,hi244_0⟩:=at_L1 (Kd.N_reads' HO_6.out).2.2 x7_1 p244 q244;cases e244;obtain ⟨ce244,hce244,hMe244,hcc244⟩:=Kd.N_get HO_6.out [] x7_1 p244 (by first|exact q244|exact zd|(have e_:=(Kd.N_reads' HO_6.out).1;omega));obtain ⟨ua244_0,uc244_0,rfl,ul244_0,ge244_0⟩:=Kd.FK_slice_open hMe244;have hv244_0:=hcc244 0 _ rfl;rw [Nat.add_zero,show ((Kd.slice 3 (Kd.int .i64))).sz=1 from rfl,Nat.mul_one] at hv244_0;replace hv244_0:=Option.some.inj (hv244_0.symm.trans hx244_0);injection hv244_0 with hva_ hvn_ hvc_
       rw [hva_] at ge244_0;rw [hvc_] at ul244_0;have HL244_0:=aM (show Kd.V (Kd.int .i64) 3 _ w.heap.size _ _ (rd_L1 t240 x7_1) from Kd.V_mk ul244_0 ge244_0);clear hva_ hvn_ hvc_ ge244_0 ul244_0 hcc244 hce244;have HR244_0:=aM hi244_0;have HC244_0:=aM hl244_0;clear hi244_0 hl244_0;replace p244:=eq_true p244;replace q244:=eq_true q244;go_wp2_with (first|((with_reducible refine gate_callee (f:=69) rfl ?_);refine gm (some 30) Try.func69 #[.slice A244_0 (rd_L1 t240 x7_1).length c244_0] ?_;(with_reducible refine (spec_l5Lead.calls k1 _ _ (rd_L1 t240 x7_1) t245 _ ?side1 ?side2 A14.out).mono ?_);(case side1=>exact zc HR244_0.out);(case side2=>exact HC244_0.out);rintro e w' ⟨rfl,⟨nd,rfl⟩⟩;refine ⟨_,rfl,?_⟩;obtain ⟨Ao19,co19,eo19⟩:=Kd.R_slice HO_5.out;subst eo19;have p246:0≤(t245:Int):=zd;have q246:t245<(x5_1.length:Int):=zd;obtain ⟨ad246,e246,hx246_0⟩:=Kd.at_int (Kd.R_reads' HO_5.out).2.2 t245 p246 q246;cases e246;replace p246:=eq_true p246;replace q246:=eq_true q246));go_roundg k1;(case measure=>have:=HK1.out;omega);(case rel=>exact ⟨(x5_1),(wrap64 (x7_1+1)),zt,H',⟨by have:=HK1.out;omega⟩,⟨zr HO_5.out⟩,⟨zn HO_6.out⟩,⟨zb HB.out⟩⟩)
      ·rw [if_neg c17] at H;have c17b0:((rd x5_1 t245) == 0)=false:=beq_eq_false_iff_ne.mpr c17;have c17b1:((rd x5_1 t245) != 0)=true:=bne_iff_ne.mpr c17;obtain ⟨t248,A20,H⟩:=bz H;have H':=aM H;clear H;obtain ⟨Ao21,co21,eo21⟩:=Kd.N_slice HO_6.out;subst eo21;have p244:0≤(x7_1:Int):=zd;have q244:x7_1<(t240.length:Int):=zd;obtain ⟨ad244,A244_0,c244_0,e244,hx244_0,hl244_0,hi244_0⟩:=at_L1 (Kd.N_reads' HO_6.out).2.2 x7_1 p244 q244;cases e244;obtain ⟨ce244,hce244,hMe244,hcc244⟩:=Kd.N_get HO_6.out [] x7_1 p244 (by first|exact q244|exact zd|(have e_:=(Kd.N_reads' HO_6.out).1;omega));obtain ⟨ua244_0,uc244_0,rfl,ul244_0,ge244_0⟩:=Kd.FK_slice_open hMe244;have hv244_0:=hcc244 0 _ rfl;rw [Nat.add_zero,show ((Kd.slice 3 (Kd.int .i64))).sz=1 from rfl,Nat.mul_one] at hv244_0;replace hv244_0:=Option.some.inj (hv244_0.symm.trans hx244_0);injection hv244_0 with hva_ hvn_ hvc_
       rw [hva_] at ge244_0;rw [hvc_] at ul244_0;have HL244_0:=aM (show Kd.V (Kd.int .i64) 3 _ w.heap.size _ _ (rd_L1 t240 x7_1) from Kd.V_mk ul244_0 ge244_0);clear hva_ hvn_ hvc_ ge244_0 ul244_0 hcc244 hce244;have HR244_0:=aM hi244_0;have HC244_0:=aM hl244_0;clear hi244_0 hl244_0;replace p244:=eq_true p244;replace q244:=eq_true q244;go_wp2_with (first|((with_reducible refine gate_callee (f:=69) rfl ?_);refine gm (some 30) Try.func69 #[.slice A244_0 (rd_L1 t240 x7_1).length c244_0] ?_;(with_reducible refine (spec_l5Lead.calls k1 _ _ (rd_L1 t240 x7_1) t245 _ ?side1 ?side2 A14.out).mono ?_);(case side1=>exact zc HR244_0.out);(case side2=>exact HC244_0.out);rintro e w' ⟨rfl,⟨nd,rfl⟩⟩;refine ⟨_,rfl,?_⟩;obtain ⟨Ao22,co22,eo22⟩:=Kd.R_slice HO_5.out;subst eo22;have p246:0≤(t245:Int):=zd;have q246:t245<(x5_1.length:Int):=zd;obtain ⟨ad246,e246,hx246_0⟩:=Kd.at_int (Kd.R_reads' HO_5.out).2.2 t245 p246 q246;cases e246;replace p246:=eq_true p246;replace q246:=eq_true q246;have p247:0≤(x7_1:Int):=zd;have q247:x7_1<(t240.length:Int):=zd;obtain ⟨ad247,A247_0,c247_0,e247,hx247_0,hl247_0,hi247_0⟩:=at_L1 (Kd.N_reads' HO_6.out).2.2 x7_1 p247 q247;obtain rfl:ad244=ad247:=(by injection e247);obtain ⟨ce247,hce247,hMe247,hcc247⟩:=Kd.N_get HO_6.out [] x7_1 p247 (by first|exact q247|exact zd|(have e_:=(Kd.N_reads' HO_6.out).1;omega));obtain ⟨ua247_0,uc247_0,rfl,ul247_0,ge247_0⟩:=Kd.FK_slice_open hMe247;have hv247_0:=hcc247 0 _ rfl;rw [Nat.add_zero,show ((Kd.slice 3 (Kd.int .i64))).sz=1 from rfl,Nat.mul_one] at hv247_0;replace hv247_0:=Option.some.inj (hv247_0.symm.trans hx247_0);injection hv247_0 with hva_ hvn_ hvc_;rw [hva_] at ge247_0;rw [hvc_] at ul247_0;have HL247_0:=aM (show Kd.V (Kd.int .i64) 3 _ w.heap.size _ _ (rd_L1 t240 x7_1) from Kd.V_mk ul247_0 ge247_0);clear hva_ hvn_ hvc_ ge247_0 ul247_0 hcc247 hce247;have HR247_0:=aM hi247_0;have HC247_0:=aM hl247_0;clear hi247_0 hl247_0;replace p247:=eq_true p247;replace q247:=eq_true q247;have ea_:=Option.some.inj (hx244_0.symm.trans hx247_0);injection ea_ with ea_ en_ ec_;subst ea_;subst ec_;clear en_)|((with_reducible refine gate_callee (f:=88) rfl ?_);refine gm (some 42) Try.func88 #[.slice (some ad246) x5_1.length co22,.slice A244_0 (rd_L1 t240 x7_1).length c244_0,.int .i64 t245] ?_;(with_reducible refine (spec_l5Clear.calls k1 _ _ x5_1 _ _ (rd_L1 t240 x7_1) t245 t248 _ ?side1 ?side2 ?side3 ?side4 A20.out).mono ?_);(case side1=>exact zc (Kd.R_reads' HO_5.out).2.2);(case side2=>exact (Kd.R_reads' HO_5.out).2.1);(case side3=>exact zc HR247_0.out);(case side4=>exact HC247_0.out);rintro e w23 ⟨v249,rfl,ho0,hb⟩;refine ⟨_,rfl,?_⟩;replace HO_6:=aM (Kd.N_elder' (zn HO_6.out) (Kd.R_base ho0) hb);replace HL244_0:=aM (Kd.V_elder' (zv HL244_0.out) (Kd.R_base ho0) hb);replace HL247_0:=aM (Kd.V_elder' (zv HL247_0.out) (Kd.R_base ho0) hb);have HO250:=aM (Kd.R_lower (Kd.R_new' ho0 (Kd.R_lt (zr HO_5.out))) (below_size (zb HB.out)));replace HO_5:=aM (Kd.R_elder' (zr HO_5.out) (Kd.R_base ho0) hb);replace HR244_0:=aM (Kd.C_below (zc HR244_0.out) hb);replace HR247_0:=aM (Kd.C_below (zc HR247_0.out) hb);replace HB:=aM (below_step (zb HB.out) hb);(try clear hb);(try clear hb2);(try clear hk);(try clear hi);(try clear ho0)));go_roundg k1;(case measure=>have:=HK1.out;omega);(case rel=>exact ⟨(t248),(wrap64 (x7_1+1)),zt,H',⟨by have:=HK1.out;omega⟩,⟨by (with_reducible repeat (first|apply Kd.R_alloc|apply Kd.R_drewN|apply Kd.R_drew));exact Kd.R_mono HO250.out (fun _ hk=>trivial)⟩,⟨by (with_reducible repeat (first|apply Kd.N_alloc|apply Kd.N_drewN|apply Kd.N_drew));exact Kd.N_mono HO_6.out (fun _ hk=>hk.2)⟩,⟨zb HB.out⟩⟩)
     ·rw [if_neg c12] at H;have c12b0:decide (x7_1<(t240.length:Int))=false:=decide_eq_false c12;clear c12;obtain ⟨t243,A24,H⟩:=bz H;obtain rfl:=Option.some.inj H;obtain ⟨Ao25,co25,eo25⟩:=Kd.N_slice HO_6.out;subst eo25;obtain ⟨Ao26,co26,eo26⟩:=Kd.R_slice HO_5.out;subst eo26;go_wp2_with (first|((with_reducible refine gate_callee (f:=69) rfl ?_);refine gm (some 44) Try.func69 #[.slice Ao26 x5_1.length co26] ?_;(with_reducible refine (spec_l5Lead.calls k1 _ _ x5_1 t243 _ ?side1 ?side2 A24.out).mono ?_);(case side1=>exact zc (Kd.R_reads' HO_5.out).2.2);(case side2=>exact (Kd.R_reads' HO_5.out).2.1);rintro e w' ⟨rfl,⟨nd,rfl⟩⟩;refine ⟨_,rfl,?_⟩));go_ret;exact ⟨by first|rfl|(simp [errW_none,errW_some]<;>rfl)|(simp [*,errW_none,errW_some]<;>rfl),zb HB.out⟩
  ·rw [if_neg c5] at H;exact absurd H (by simp)
 ·replace c4:=Bool.eq_false_iff.mpr c4;subst c4;replace H:=ifF H;obtain rfl:=Option.some.inj H;go_enter Try.func48,Try.ntmps48;go_wp2_with (first|((with_reducible refine gate_callee (f:=87) rfl ?_);refine gm (some 11) Try.func87 #[.slice A0 l0.length c0,.slice A1 l1.length c1] ?_;(with_reducible refine (spec_l5Both.calls k _ _ l0 (fun k_=>k_<w.heap.size) _ _ l1 false _ ?side1 ?side2 ?side3 A3.out).mono ?_);(case side1=>exact zc HR0.out);(case side2=>exact HC0.out);(case side3=>exact Kd.V_mk HC1.out (Kd.F_below (Kd.C_F (Kd.heap_int .i64) HR1.out) (zb HB.out)));rintro e w27 ⟨rfl,hb⟩;refine ⟨_,rfl,?_⟩;replace HB:=aM (below_step (zb HB.out) hb);(try clear hb);(try clear hb2);(try clear hk);(try clear hi)));go_ret;exact ⟨by first|rfl|(simp [errW_none,errW_some]<;>rfl)|(simp [*,errW_none,errW_some]<;>rfl),zb HB.out⟩
end Go.Proofs.Ytojkepidkmkmpaa.PFnSpan
end
section
namespace Go.Proofs.Ytojkepidkmkmpaa.PFnSpan
open Go.Proofs.YtojkepidkmkmpaaW.PrintWords.Aside0 renaming mk → aM
open List renaming setIfInBounds_toArray → qa, set_cons_zero → qz, set_cons_succ → qs
open Bool renaming true → tt, false → ff
open Option renaming bind_eq_some_iff → bE

open Go.RowKit Go.Proofs.YtojkepidkmkmpaaW.PrintWords Go.Proofs.YtojkepidkmkmpaaW.PrintLast Go.Proofs.YtojkepidkmkmpaaW.PrintMore
attribute [local go_sem] max2_int min2_int max_two min_two max_three min_three max_four min_four
set_option linter.unusedVariables false
set_option linter.unusedSimpArgs false
mutual
def spec_l5Null.l0 : Nat → List (List Int) → Int → Int → Int → Int → Option (List Int)
 | 0, _, _, _, _, _ => none
 | k + 1, x0, x1, x2, x7, x8 => if x8 < (x0.length : Int) then (if 0 ≤ x8 then ((spec_l5Lead.f k (rd_L1 x0 x8)).bind fun t253 => (if 0 ≤ t253 then (if t253 < ((rd_L1 x0 x8).length : Int) then ((spec_l4Gcd.f k x7 (rd (rd_L1 x0 x8) t253)).bind fun t255 => (if t255 = 0 then (none) else (spec_l5Null.l0 k x0 x1 x2 (wrap64 ((wrap64 (Int.tdiv x7 t255)) * (rd (rd_L1 x0 x8) t253))) (wrap64 (x8 + 1))))) else (none)) else (none))) else (none)) else (spec_l5Null.l1 k x0 x1 x2 x7 (([] : List Int)) 0)
def spec_l5Null.l1 : Nat → List (List Int) → Int → Int → Int → List Int → Int → Option (List Int)
 | 0, _, _, _, _, _, _ => none
 | k + 1, x0, x1, x2, x7, x10, x11 => if x11 < x1 then (if x10.length < 17592186044416 then (spec_l5Null.l1 k x0 x1 x2 x7 (x10 ++ [0]) (wrap64 (x11 + 1))) else (none)) else (if 0 ≤ x2 then (if x2 < (x10.length : Int) then (spec_l5Null.l2 k x0 x2 x7 (x10.set (x2 : Int).toNat x7) 0) else (none)) else (none))
def spec_l5Null.l2 : Nat → List (List Int) → Int → Int → List Int → Int → Option (List Int)
 | 0, _, _, _, _, _ => none
 | k + 1, x0, x2, x7, x10, x12 => if x12 < (x0.length : Int) then (if 0 ≤ x12 then ((spec_l5Lead.f k (rd_L1 x0 x12)).bind fun t264 => (if 0 ≤ t264 then (if t264 < ((rd_L1 x0 x12).length : Int) then (if (rd (rd_L1 x0 x12) t264) = 0 then (none) else (if 0 ≤ x2 then (if x2 < ((rd_L1 x0 x12).length : Int) then (if t264 < (x10.length : Int) then (spec_l5Null.l2 k x0 x2 x7 (x10.set (t264 : Int).toNat (wrap64 ((wrap64 (-(wrap64 (Int.tdiv x7 (rd (rd_L1 x0 x12) t264))))) * (rd (rd_L1 x0 x12) x2)))) (wrap64 (x12 + 1))) else (none)) else (none)) else (none))) else (none)) else (none))) else (none)) else (some x10)
end
def spec_l5Null.f (k : Nat) (l0 : List (List Int)) (a1 : Int) (a2 : Int) : Option (List Int) := spec_l5Null.l0 k l0 a1 a2 1 0
def spec_l5Null.T5 : Bool × List (List Nat × List Nat) := (true, [([], []), ([], []), ([0, 1], [0, 1]), ([2], [2]), ([], []), ([], []), ([4, 5], [4, 5]), ([6], [6]), ([7], [7]), ([3, 8], [3, 8]), ([9], [9]), ([10, 8, 0, 1, 2, 3, 4, 5, 6, 7, 8, 9, 10], [10])])
def spec_l5Null.B5 : List Nat := [0, 0, 3, 7, 0, 0, 48, 112, 240, 511, 1023, 2047]
theorem spec_l5Null.tab5 : rtab .any (opsOf Try.f91 5) = spec_l5Null.T5 := by kernel_rfl
theorem spec_l5Null.bits5 : waitsOk spec_l5Null.T5.2 spec_l5Null.B5 = true := by kernel_rfl
def spec_l5Null.T17 : Bool × List (List Nat × List Nat) := (true, [([], []), ([], []), ([], []), ([], []), ([], []), ([3, 4], [3, 4]), ([5], [5]), ([], []), ([6, 7], [6, 7]), ([8], [8]), ([2, 9], [2, 9]), ([10], [10]), ([], []), ([], []), ([12, 13], [12, 13]), ([14], [14]), ([], []), ([15, 16], [15, 16]), ([17], [17]), ([11, 18], [11, 18]), ([0, 1, 0, 1, 2, 3, 4, 5, 6, 7, 8, 9, 10, 11, 12, 13, 14, 15, 16, 17, 18, 19], [0, 1]), ([20, 19, 0, 1, 2, 3, 4, 5, 6, 7, 8, 9, 10, 11, 12, 13, 14, 15, 16, 17, 18, 19], [19, 20])])
def spec_l5Null.B17 : List Nat := [0, 0, 0, 0, 0, 24, 56, 0, 248, 504, 1020, 2044, 0, 0, 12288, 28672, 0, 126976, 258048, 524284, 1048575, 2097151]
theorem spec_l5Null.tab17 : rtab .any (opsOf Try.f91 17) = spec_l5Null.T17 := by kernel_rfl
theorem spec_l5Null.bits17 : waitsOk spec_l5Null.T17.2 spec_l5Null.B17 = true := by kernel_rfl
set_option maxHeartbeats 8000000 in
set_option maxRecDepth 100000 in
theorem spec_l5Null.calls (k : Nat) (A0 : Option Addr) (c0 : Nat) (l0 : List (List Int)) (a1 : Int) (a2 : Int) (r : List Int) (w : World) (hr0 : Kd.C (Kd.slice 3 (Kd.int .i64)) w A0 l0.length l0) (hc0 : l0.length ≤ c0) (h : spec_l5Null.f k l0 a1 a2 = some r) :
 Calls Try.prog 91 #[.slice A0 l0.length c0, .int .i64 a1, .int .i64 a2] w fun e w' => ∃ v0_ : Value, e = .returned (v0_) ∧ Kd.R (Kd.int .i64) 3 w' w.heap.size (fun _ => True) v0_ r ∧ Below w.heap.size w w' := by
 have HR0:=aM hr0;have HC0:=aM hc0;clear hr0 hc0;have HB:=aM (Below.refl w.heap.size w);have H:(spec_l5Null.l0 k l0 a1 a2 1 0)=some r:=h;clear h;have H':=aM H;clear H;go_enter Try.func91,Try.ntmps91;go_wp2;go_loopg [7,8] k (fun kq v7 v8 w'=>∃(x7_1:Int) (x8_1:Int),v7 = .int .i64 x7_1∧v8 = .int .i64 x8_1∧Aside0 (spec_l5Null.l0 kq l0 a1 a2 x7_1 x8_1=some r)∧Aside0 (kq≤k)∧Aside0 (Below w.heap.size w w'));(case atStart=>exact ⟨(1),(0),zt,zt,H',⟨Nat.le_refl _⟩,⟨zb HB.out⟩⟩)
 case round=>
  clear H';(try clear p2);obtain ⟨x7_1,x8_1,rfl,rfl,HA,HK1,HB⟩:=hrel;cases gk with
  | zero=>exact absurd HA.out (by simp [spec_l5Null.l0])
  | succ k1=>
   have H:=HA.out;clear HA;simp only [spec_l5Null.l0] at H;by_cases c4:x8_1<(l0.length:Int)
   ·rw [if_pos c4] at H;have c4b0:decide (x8_1<(l0.length:Int))=true:=decide_eq_true c4;clear c4;obtain ⟨c5b0,H⟩:=iN H;obtain ⟨t253,A6,H⟩:=bz H;obtain ⟨c7b0,H⟩:=iN H;obtain ⟨c8b0,H⟩:=iN H;obtain ⟨t255,A9,H⟩:=bz H;by_cases c10:t255=0
    ·rw [if_pos c10] at H;exact absurd H (by simp)
    ·rw [if_neg c10] at H;have c10b0:(t255 == 0)=false:=beq_eq_false_iff_ne.mpr c10;have c10b1:(t255 != 0)=true:=bne_iff_ne.mpr c10;have H':=aM H;clear H;(try go_wp2);replace HB:=aM (below_drew1 HB.out);have p251:0≤(x8_1:Int):=zd;have q251:x8_1<(l0.length:Int):=zd;obtain ⟨ad251,A251_0,c251_0,e251,hx251_0,hl251_0,hi251_0⟩:=at_L1 HR0.out x8_1 p251 q251;have hw251_0:=hx251_0;cases e251;replace hx251_0:=(HB.out.cell (World.block_lt_of_cell? w _ hx251_0)).trans hx251_0;have HR251_0:=aM hi251_0;have HC251_0:=aM hl251_0;clear hi251_0 hl251_0;replace p251:=eq_true p251;replace q251:=eq_true q251;have p252:0≤(x8_1:Int):=zd;have q252:x8_1<(l0.length:Int):=zd;obtain ⟨ad252,A252_0,c252_0,e252,hx252_0,hl252_0,hi252_0⟩:=at_L1 HR0.out x8_1 p252 q252;have hw252_0:=hx252_0;obtain rfl:ad251=ad252:=(by injection e252);replace hx252_0:=(HB.out.cell (World.block_lt_of_cell? w _ hx252_0)).trans hx252_0;have HR252_0:=aM hi252_0;have HC252_0:=aM hl252_0;clear hi252_0 hl252_0;replace p252:=eq_true p252;replace q252:=eq_true q252;have ea_:=Option.some.inj (hx251_0.symm.trans hx252_0);injection ea_ with ea_ en_ ec_
     subst ea_;subst ec_;clear en_;have p254:0≤(t253:Int):=zd;have q254:t253<((rd_L1 l0 x8_1).length:Int):=zd;obtain ⟨ad254,e254,hx254_0⟩:=Kd.at_int HR251_0.out t253 p254 q254;have hw254_0:=hx254_0;cases e254;replace hx254_0:=(HB.out.cell (World.block_lt_of_cell? w _ hx254_0)).trans hx254_0;replace p254:=eq_true p254;replace q254:=eq_true q254;refine start_ (n:=12) (S:=fun w'=>w'.cell? (ad251.add (x8_1).toNat)=some (.slice (some ad254) (rd_L1 l0 x8_1).length c251_0)∧w'.cell? (ad251.add (x8_1).toNat)=some (.slice (some ad254) (rd_L1 l0 x8_1).length c251_0)∧w'.cell? (ad254.add (t253).toNat)=some (.int .i64 (rd (rd_L1 l0 x8_1) t253))) (ds:=[]) #[ff,ff,ff,ff,ff,ff,ff,ff,ff,ff,ff,ff] (by kernel_rfl) rfl rfl ⟨((HB.out.cell (World.block_lt_of_cell? w _ hw251_0)).trans hw251_0),((HB.out.cell (World.block_lt_of_cell? w _ hw252_0)).trans hw252_0),((HB.out.cell (World.block_lt_of_cell? w _ hw254_0)).trans hw254_0)⟩ (fun hHeld=>?_);refine with_tabW spec_l5Null.tab5 spec_l5Null.bits5 (fun HT_ HW_=>?_);generalize wr.drew=w11 at HB HR251_0 HR252_0 hx251_0 hx252_0 hx254_0 hHeld ⊢;refine pu 0 (some 20) #[tt,ff,ff,ff,ff,ff,ff,ff,ff,ff,ff,ff] rfl rfl HT_ ?_;refine pu 1 (some 21) #[tt,tt,ff,ff,ff,ff,ff,ff,ff,ff,ff,ff] rfl rfl HT_ ?_;refine pu 2 (some 22) #[tt,tt,tt,ff,ff,ff,ff,ff,ff,ff,ff,ff] rfl rfl HT_ ?_;refine pu 4 (some 24) #[tt,tt,tt,ff,tt,ff,ff,ff,ff,ff,ff,ff] rfl rfl HT_ ?_;refine pu 5 (some 25) #[tt,tt,tt,ff,tt,tt,ff,ff,ff,ff,ff,ff] rfl rfl HT_ ?_;refine pu 6 (some 26) #[tt,tt,tt,ff,tt,tt,tt,ff,ff,ff,ff,ff] rfl rfl HT_ ?_;refine take_ (i:=3) (N:=some 23) (v:=?_) (a':=?_) #[tt,tt,tt,tt,tt,tt,tt,ff,ff,ff,ff,ff] rfl rfl (take_ofW HT_.out HW_.out (by kernel_rfl)) (fun _ _ _ h=>h) (Or.inl ⟨by rfl,?_⟩) hHeld ?_ ?_;rotate_left
     ·rintro w' ⟨s0,s1,s2⟩;go_simp;(with_reducible rfl)
     rotate_left
     ·simp only [Act.put,qa,qz,qs,i64_w,i32_w];rfl
     refine take_ (i:=7) (N:=some 27) (v:=?_) (a':=?_) #[tt,tt,tt,tt,tt,tt,tt,tt,ff,ff,ff,ff] rfl rfl (take_ofW HT_.out HW_.out (by kernel_rfl)) (fun _ _ _ h=>h) (Or.inl ⟨by rfl,?_⟩) hHeld ?_ ?_;rotate_left
     ·rintro w' ⟨s0,s1,s2⟩;go_simp;(with_reducible rfl)
     rotate_left
     ·simp only [Act.put,qa,qz,qs,i64_w,i32_w];rfl
     refine one_ (i:=8) (N:=some 28) #[tt,tt,tt,tt,tt,tt,tt,tt,tt,ff,ff,ff] rfl rfl (one_of HT_.out (by kernel_rfl)) (by decide) (fun K hK=>?_);refine gs Try.func69 #[.slice (some ad254) (rd_L1 l0 x8_1).length c251_0] ?_;(with_reducible refine (spec_l5Lead.calls k1 _ _ (rd_L1 l0 x8_1) t253 _ ?side1 ?side2 A6.out).mono ?_);(case side1=>exact zc (Kd.C_below HR252_0.out HB.out));(case side2=>exact HC252_0.out);rintro e w' ⟨rfl,⟨nd,rfl⟩⟩;refine ⟨_,rfl,?_⟩;refine hK.out _ _ ⟨((HB.out.cell (World.block_lt_of_cell? w _ hw251_0)).trans hw251_0),((HB.out.cell (World.block_lt_of_cell? w _ hw252_0)).trans hw252_0),((HB.out.cell (World.block_lt_of_cell? w _ hw254_0)).trans hw254_0)⟩ (fun hHeld=>?_);clear hK K;refine norm_ (a':=?_) ?_ ?_;rotate_left
     ·show Act.put _ (some 28) _=_;simp only [Act.put,qa,qz,qs,i64_w,i32_w];rfl
     refine pu 9 (some 29) #[tt,tt,tt,tt,tt,tt,tt,tt,tt,tt,ff,ff] rfl rfl HT_ ?_;refine take_ (i:=10) (N:=some 30) (v:=?_) (a':=?_) #[tt,tt,tt,tt,tt,tt,tt,tt,tt,tt,tt,ff] rfl rfl (take_ofW HT_.out HW_.out (by kernel_rfl)) (fun _ _ _ h=>h) (Or.inl ⟨by rfl,?_⟩) hHeld ?_ ?_;rotate_left
     ·rintro w' ⟨s0,s1,s2⟩;go_simp;(with_reducible rfl)
     rotate_left
     ·simp only [Act.put,qa,qz,qs,i64_w,i32_w];rfl
     refine pu 11 (some 9) #[tt,tt,tt,tt,tt,tt,tt,tt,tt,tt,tt,tt] rfl rfl HT_ ?_;refine done_ (done_of HT_.out (by kernel_rfl)) ?_;(try go_wp2_with (first|((with_reducible refine gate_callee (f:=102) rfl ?_);refine gm (some 34) Try.func102 #[.int .i64 x7_1,.int .i64 (rd (rd_L1 l0 x8_1) t253)] ?_;(with_reducible refine (spec_l4Gcd.calls k1 x7_1 (rd (rd_L1 l0 x8_1) t253) t255 _ A9.out).mono ?_);rintro e w' ⟨rfl,⟨nd,rfl⟩⟩;refine ⟨_,rfl,?_⟩)));go_roundg k1;(case measure=>have:=HK1.out;omega);(case rel=>exact ⟨(wrap64 ((wrap64 (Int.tdiv x7_1 t255))*(rd (rd_L1 l0 x8_1) t253))),(wrap64 (x8_1+1)),zt,zt,H',⟨by have:=HK1.out;omega⟩,⟨zb HB.out⟩⟩)
   ·rw [if_neg c4] at H;have c4b0:decide (x8_1<(l0.length:Int))=false:=decide_eq_false c4;clear c4;obtain ⟨y256,hy256⟩:∃y_:List Int,y_=(([]:List Int)):=⟨_,rfl⟩;replace H:(spec_l5Null.l1 k1 l0 a1 a2 x7_1 y256 0)=some r:=(by first|(rw [hy256];with_reducible exact H)|(have H2_:=(Option.bind_some _ _).symm.trans H;rw [hy256];with_reducible exact H2_)|(have H2_:=(Option.bind_some _ _).symm.trans H;with_reducible exact H2_)|with_reducible exact H|(rw [hy256];exact H)|exact H);have Ny256:=aM hy256;clear hy256;have H':=aM H;clear H;go_wp2_with (first|((with_reducible refine gate_dst (N:=38) rfl ?_);refine Kd.R_lit (Kd.int .i64) _ 3 ?hg (N:=38) ?hd (xs:=([]:List Int)) (inner:=[]) (ok:=fun _=>True) (okp:=fun _=>True) ?hr ?hp (fun _ hk=>hk) trivial (Below.refl _ _) (Nat.le_refl _) (by simp) ?_;(case hd=>rfl);(case hg=>rfl);(case hr=>first|(go_simp;done)|(go_simp;rfl));(case hp=>exact (Reps.none _ _));intro v257 w12 ho13 hb hg_ hnew_;clear hg_ hnew_;(first|rw [← Ny256.out] at ho13|(simp only [Int.reduceToNat] at ho13;rw [← Ny256.out] at ho13));have HO258:=aM (Kd.R_lower ho13 (below_size (zb HB.out)));replace HB:=aM (below_step (zb HB.out) hb);clear hb ho13));go_loopg [10,11] k1 (fun kq v10 v11 w'=>∃(x10_2:List Int) (x11_2:Int),v11 = .int .i64 x11_2∧Aside0 (spec_l5Null.l1 kq l0 a1 a2 x7_1 x10_2 x11_2=some r)∧Aside0 (kq≤k1)∧Aside0 (Kd.R (Kd.int .i64) 3 w' w.heap.size (fun _=>True) v10 x10_2)∧Aside0 (Below w.heap.size w w'));(case atStart=>exact ⟨(y256),(0),zt,H',⟨Nat.le_refl _⟩,⟨zr HO258.out⟩,⟨zb HB.out⟩⟩)
    case round=>
     clear H';(try clear c1);(try clear c2);(try clear p2);(try clear q2);(try clear hx2);(try clear c4);(try clear c4b0);(try clear c5);(try clear c5b0);(try clear c6);(try clear p6);(try clear c7);(try clear c7b0);(try clear c8);(try clear c8b0);(try clear c9);(try clear c10);(try clear c10b0);(try clear c10b1);(try clear hx251_0);(try clear hx252_0);(try clear hx254_0);(try clear p2);(try clear p251);(try clear p252);(try clear p254);(try clear q251);(try clear q252);(try clear q254);obtain ⟨x10_2,x11_2,rfl,HA,HK2,HO_10,HB⟩:=hrel;cases gk with
     | zero=>exact absurd HA.out (by simp [spec_l5Null.l1])
     | succ k2=>
      have H:=HA.out;clear HA;simp only [spec_l5Null.l1] at H;by_cases c14:x11_2<a1
      ·rw [if_pos c14] at H;have c14b0:decide (x11_2<a1)=true:=decide_eq_true c14;clear c14;by_cases c15:x10_2.length<17592186044416
       ·rw [if_pos c15] at H;have LMc15:=aM c15;clear c15;obtain ⟨y259,hy259⟩:∃y_:List Int,y_=(x10_2 ++ [0]):=⟨_,rfl⟩;replace H:(spec_l5Null.l1 k2 l0 a1 a2 x7_1 y259 (wrap64 (x11_2+1)))=some r:=(by first|(rw [hy259];with_reducible exact H)|(have H2_:=(Option.bind_some _ _).symm.trans H;rw [hy259];with_reducible exact H2_)|(have H2_:=(Option.bind_some _ _).symm.trans H;with_reducible exact H2_)|with_reducible exact H|(rw [hy259];exact H)|exact H);have Ny259:=aM hy259;clear hy259;have H':=aM H;clear H;go_wp2_with (first|((with_reducible refine gate_builtin (b:=.append) (xs:=#[.tmp 44,.tmp 45]) rfl ?_);at_builtin;refine Kd.R_append (Kd.int .i64) (w0:=w) w.heap.size rfl (.tmp 44) (.tmp 45) 23 3 (.int .i64 0) 8 rfl Try.underlying23 info3 rfl (by decide) (by omega) u10 x10_2 0 [.int .i64 0] (fun _=>True) (fun _=>False) rfl rfl ?aP (fun _ hk=>hk.elim) ?aF ?aO ?aB ?aS ?aL ?_;(case aP=>exact rfl);(case aB=>exact (zb HB.out));(case aF=>exact (fun _ _=>trivial));(case aO=>exact (zr HO_10.out));(case aS=>exact (below_size (zb HB.out)));(case aL=>have:=LMc15.out;omega);intro v260 w16 ho hb hg hat;rw [← Ny259.out] at ho;replace HB:=aM (hb);have HO261:=aM (ho);clear HO_10 ho hb hg hat));go_roundg k2;(case measure=>have:=HK1.out;have:=HK2.out;omega);(case rel=>exact ⟨(y259),(wrap64 (x11_2+1)),zt,H',⟨by have:=HK1.out;have:=HK2.out;omega⟩,⟨zr HO261.out⟩,⟨zb HB.out⟩⟩)
       ·rw [if_neg c15] at H;exact absurd H (by simp)
      ·rw [if_neg c14] at H;have c14b0:decide (x11_2<a1)=false:=decide_eq_false c14;clear c14;obtain ⟨c17b0,H⟩:=iN H;obtain ⟨c18b0,H⟩:=iN H;obtain ⟨y262,hy262⟩:∃y_:List Int,y_=(x10_2.set (a2:Int).toNat x7_1):=⟨_,rfl⟩;replace H:(spec_l5Null.l2 k2 l0 a2 x7_1 y262 0)=some r:=(by first|(rw [hy262];with_reducible exact H)|(have H2_:=(Option.bind_some _ _).symm.trans H;rw [hy262];with_reducible exact H2_)|(have H2_:=(Option.bind_some _ _).symm.trans H;with_reducible exact H2_)|with_reducible exact H|(rw [hy262];exact H)|exact H);have Ny262:=aM hy262;clear hy262;have H':=aM H;clear H;have p19:0≤(a2:Int):=zd;have q19:(a2:Int)<((x10_2.length:Int):Int):=zd;obtain ⟨go19,co19,eo19,gb19,gl19,cl19,HG19⟩:=Kd.R_form HO_10.out (by omega);(first|cases eo19|(injection eo19 with ea_ en_ ec_;(first|subst ea_|(injection ea_ with ea_;subst ea_));subst ec_;clear en_));have GB19:=aM gb19;have GG19:=aM HG19;clear gb19 gl19 HG19;obtain ⟨hx19_0,hf19_0⟩:=Kd.R_celln 0 HO_10.out (a2:Int) p19 q19;replace p19:=eq_true p19;replace q19:=eq_true q19;have HP20:=Kd.R_putg HO_10.out (a2:Int) x7_1;go_wp2_with (first|((with_reducible refine gate_store (t:=3) (p:=50) rfl ?_);refine store_event (t:=3) (p:=50) (v:=?vo_w21) (w1:=(wr.setCell ⟨go19,(a2:Int).toNat,none⟩ (.int .i64 x7_1))) ?hg ?ho ?hn ?hr ?_;(case ho=>rfl);(case hg=>rfl);(case hn=>rfl);(case hr=>first|(go_simp;done)|(go_simp;rfl));intro w21 hw;have hg:wr.grownBy w21 (some go19):=(by rw [hw];exact HP20.2);have hp_:Kd.R (Kd.int .i64) 3 w21 w.heap.size (fun _=>True) (.slice (some ⟨go19,0,none⟩) x10_2.length co19) y262:=(by rw [hw,Ny262.out];exact HP20.1);clear HP20;replace HO_10:=aM (hp_);replace HB:=aM ((by rw [hw];exact below_set (HB.out) GB19.out:Below w.heap.size w w21));clear hg hw hp_));go_loopg [12] k2 (fun kq v12 w'=>∃(x10_3:List Int) (x12_3:Int),v12 = .int .i64 x12_3∧Aside0 (spec_l5Null.l2 kq l0 a2 x7_1 x10_3 x12_3=some r)∧Aside0 (kq≤k2)∧Aside0 (Kd.R (Kd.int .i64) 3 w' w.heap.size (fun _=>True) (.slice (some ⟨go19,0,none⟩) x10_2.length co19) x10_3)∧Aside0 (Below w.heap.size w w'));(case atStart=>exact ⟨(y262),(0),zt,H',⟨Nat.le_refl _⟩,⟨zr HO_10.out⟩,⟨zb HB.out⟩⟩)
       case round=>
        clear H';(try clear c1);(try clear p1);(try clear q1);(try clear hx1);(try clear c2);(try clear p2);(try clear q2);(try clear hx2);(try clear c4);(try clear c4b0);(try clear c5);(try clear c5b0);(try clear c6);(try clear p6);(try clear c7);(try clear c7b0);(try clear c8);(try clear c8b0);(try clear c9);(try clear c10);(try clear c10b0);(try clear c10b1);(try clear c14);(try clear c14b0);(try clear c15);(try clear c17);(try clear c17b0);(try clear c18);(try clear c18b0);(try clear p19);(try clear q19);(try clear hx19);(try clear hf19);(try clear hx19_0);(try clear hx251_0);(try clear hx252_0);(try clear hx254_0);(try clear p19);(try clear p2);(try clear p251);(try clear p252);(try clear p254);(try clear p6);(try clear q19);(try clear q2);(try clear q251);(try clear q252);(try clear q254);obtain ⟨x10_3,x12_3,rfl,HA,HK3,HO_10,HB⟩:=hrel;have hl10_3:=(Kd.R_reads' HO_10.out).1;rw [hl10_3] at HO_10;(try simp only [hl10_3]);cases gk with
        | zero=>exact absurd HA.out (by simp [spec_l5Null.l2])
        | succ k3=>
         have H:=HA.out;clear HA;simp only [spec_l5Null.l2] at H;by_cases c22:x12_3<(l0.length:Int)
         ·rw [if_pos c22] at H;have c22b0:decide (x12_3<(l0.length:Int))=true:=decide_eq_true c22;clear c22;obtain ⟨c23b0,H⟩:=iN H;obtain ⟨t264,A24,H⟩:=bz H;obtain ⟨c25b0,H⟩:=iN H;obtain ⟨c26b0,H⟩:=iN H;by_cases c27:(rd (rd_L1 l0 x12_3) t264)=0
          ·rw [if_pos c27] at H;exact absurd H (by simp)
          ·rw [if_neg c27] at H;have c27b0:((rd (rd_L1 l0 x12_3) t264) == 0)=false:=beq_eq_false_iff_ne.mpr c27;have c27b1:((rd (rd_L1 l0 x12_3) t264) != 0)=true:=bne_iff_ne.mpr c27;obtain ⟨c28b0,H⟩:=iN H;obtain ⟨c29b0,H⟩:=iN H;obtain ⟨c30b0,H⟩:=iN H;obtain ⟨y269,hy269⟩:∃y_:List Int,y_=(x10_3.set (t264:Int).toNat (wrap64 ((wrap64 (-(wrap64 (Int.tdiv x7_1 (rd (rd_L1 l0 x12_3) t264)))))*(rd (rd_L1 l0 x12_3) a2)))):=⟨_,rfl⟩;replace H:(spec_l5Null.l2 k3 l0 a2 x7_1 y269 (wrap64 (x12_3+1)))=some r:=(by first|(rw [hy269];with_reducible exact H)|(have H2_:=(Option.bind_some _ _).symm.trans H;rw [hy269];with_reducible exact H2_)|(have H2_:=(Option.bind_some _ _).symm.trans H;with_reducible exact H2_)|with_reducible exact H|(rw [hy269];exact H)|exact H);have Ny269:=aM hy269;clear hy269;have H':=aM H;clear H;have p263:0≤(x12_3:Int):=zd;have q263:x12_3<(l0.length:Int):=zd;obtain ⟨ad263,A263_0,c263_0,e263,hx263_0,hl263_0,hi263_0⟩:=at_L1 HR0.out x12_3 p263 q263;cases e263;replace hx263_0:=(HB.out.cell (World.block_lt_of_cell? w _ hx263_0)).trans hx263_0;have HR263_0:=aM hi263_0;have HC263_0:=aM hl263_0;clear hi263_0 hl263_0;replace p263:=eq_true p263;replace q263:=eq_true q263;(try go_wp2_with (first|((with_reducible refine gate_callee (f:=69) rfl ?_);refine gm (some 61) Try.func69 #[.slice A263_0 (rd_L1 l0 x12_3).length c263_0] ?_;(with_reducible refine (spec_l5Lead.calls k3 _ _ (rd_L1 l0 x12_3) t264 _ ?side1 ?side2 A24.out).mono ?_);(case side1=>exact zc (Kd.C_below HR263_0.out HB.out));(case side2=>exact HC263_0.out);rintro e w' ⟨rfl,⟨nd,rfl⟩⟩;refine ⟨_,rfl,?_⟩;(try (rw [drewN_self wr];generalize hq_:World.drewN wr _=wr;replace HO_10:Aside0 (Kd.R (Kd.int .i64) 3 wr w.heap.size (fun _=>True) (.slice (some ⟨go19,0,none⟩) x10_3.length co19) x10_3):=⟨by rw [← hq_];exact (zr HO_10.out)⟩;replace HB:Aside0 (Below w.heap.size w wr):=⟨by rw [← hq_];exact (zb HB.out)⟩;clear hq_)))));replace HO_10:=aM (Kd.R_drew HO_10.out);replace HB:=aM (below_drew1 HB.out);have p265:0≤(x12_3:Int):=zd;have q265:x12_3<(l0.length:Int):=zd;obtain ⟨ad265,A265_0,c265_0,e265,hx265_0,hl265_0,hi265_0⟩:=at_L1 HR0.out x12_3 p265 q265;have hw265_0:=hx265_0;obtain rfl:ad263=ad265:=(by injection e265);replace hx265_0:=(HB.out.cell (World.block_lt_of_cell? w _ hx265_0)).trans hx265_0;have HR265_0:=aM hi265_0;have HC265_0:=aM hl265_0;clear hi265_0 hl265_0;replace p265:=eq_true p265;replace q265:=eq_true q265;have p266:0≤(t264:Int):=zd;have q266:t264<((rd_L1 l0 x12_3).length:Int):=zd;obtain ⟨ad266,e266,hx266_0⟩:=Kd.at_int HR265_0.out t264 p266 q266;have hw266_0:=hx266_0;cases e266;replace hx266_0:=(HB.out.cell (World.block_lt_of_cell? w _ hx266_0)).trans hx266_0;replace p266:=eq_true p266;replace q266:=eq_true q266;have p267:0≤(x12_3:Int):=zd;have q267:x12_3<(l0.length:Int):=zd;obtain ⟨ad267,A267_0,c267_0,e267,hx267_0,hl267_0,hi267_0⟩:=at_L1 HR0.out x12_3 p267 q267;have hw267_0:=hx267_0;obtain rfl:ad263=ad267:=(by injection e267);replace hx267_0:=(HB.out.cell (World.block_lt_of_cell? w _ hx267_0)).trans hx267_0;have HR267_0:=aM hi267_0;have HC267_0:=aM hl267_0;clear hi267_0 hl267_0;replace p267:=eq_true p267;replace q267:=eq_true q267;have ea_:=Option.some.inj (hx265_0.symm.trans hx267_0);injection ea_ with ea_ en_ ec_
           subst ea_;subst ec_;clear en_;have p268:0≤(a2:Int):=zd;have q268:a2<((rd_L1 l0 x12_3).length:Int):=zd;obtain ⟨ad268,e268,hx268_0⟩:=Kd.at_int HR267_0.out a2 p268 q268;have hw268_0:=hx268_0;cases e268;replace hx268_0:=(HB.out.cell (World.block_lt_of_cell? w _ hx268_0)).trans hx268_0;replace p268:=eq_true p268;replace q268:=eq_true q268;have p31:0≤(t264:Int):=zd;have q31:(t264:Int)<((x10_3.length:Int):Int):=zd;obtain ⟨hx31_0,hf31_0⟩:=Kd.R_celln 0 HO_10.out (t264:Int) p31 q31;replace p31:=eq_true p31;replace q31:=eq_true q31;have HP33:=Kd.R_putn HO_10.out (t264:Int) (wrap64 ((wrap64 (-(wrap64 (Int.tdiv x7_1 (rd (rd_L1 l0 x12_3) t264)))))*(rd (rd_L1 l0 x12_3) a2)));rw [← Ny269.out] at HP33;have HQ33:=aM HP33;clear HP33;refine start_ (n:=22) (S:=fun w'=>w'.cell? (ad263.add (x12_3).toNat)=some (.slice (some ad266) (rd_L1 l0 x12_3).length c265_0)∧w'.cell? (ad266.add (t264).toNat)=some (.int .i64 (rd (rd_L1 l0 x12_3) t264))∧w'.cell? (ad263.add (x12_3).toNat)=some (.slice (some ad266) (rd_L1 l0 x12_3).length c265_0)∧w'.cell? (ad266.add (a2).toNat)=some (.int .i64 (rd (rd_L1 l0 x12_3) a2))) (ds:=[21]) #[ff,ff,ff,ff,ff,ff,ff,ff,ff,ff,ff,ff,ff,ff,ff,ff,ff,ff,ff,ff,ff,ff] (by kernel_rfl) rfl rfl ⟨((HB.out.cell (World.block_lt_of_cell? w _ hw265_0)).trans hw265_0),((HB.out.cell (World.block_lt_of_cell? w _ hw266_0)).trans hw266_0),((HB.out.cell (World.block_lt_of_cell? w _ hw267_0)).trans hw267_0),((HB.out.cell (World.block_lt_of_cell? w _ hw268_0)).trans hw268_0)⟩ (fun hHeld=>?_);refine with_tabW spec_l5Null.tab17 spec_l5Null.bits17 (fun HT_ HW_=>?_);generalize wr.drew=w32 at HO_10 HB HQ33 HR265_0 HR267_0 hf31_0 hx265_0 hx266_0 hx267_0 hx268_0 hx31_0 hHeld ⊢;refine pu 0 (some 62) #[tt,ff,ff,ff,ff,ff,ff,ff,ff,ff,ff,ff,ff,ff,ff,ff,ff,ff,ff,ff,ff,ff] rfl rfl HT_ ?_;refine pu 1 (some 63) #[tt,tt,ff,ff,ff,ff,ff,ff,ff,ff,ff,ff,ff,ff,ff,ff,ff,ff,ff,ff,ff,ff] rfl rfl HT_ ?_;refine pu 2 (some 64) #[tt,tt,tt,ff,ff,ff,ff,ff,ff,ff,ff,ff,ff,ff,ff,ff,ff,ff,ff,ff,ff,ff] rfl rfl HT_ ?_;refine pu 3 (some 65) #[tt,tt,tt,tt,ff,ff,ff,ff,ff,ff,ff,ff,ff,ff,ff,ff,ff,ff,ff,ff,ff,ff] rfl rfl HT_ ?_;refine pu 4 (some 66) #[tt,tt,tt,tt,tt,ff,ff,ff,ff,ff,ff,ff,ff,ff,ff,ff,ff,ff,ff,ff,ff,ff] rfl rfl HT_ ?_;refine pu 5 (some 67) #[tt,tt,tt,tt,tt,tt,ff,ff,ff,ff,ff,ff,ff,ff,ff,ff,ff,ff,ff,ff,ff,ff] rfl rfl HT_ ?_;refine pu 7 (some 69) #[tt,tt,tt,tt,tt,tt,ff,tt,ff,ff,ff,ff,ff,ff,ff,ff,ff,ff,ff,ff,ff,ff] rfl rfl HT_ ?_;refine pu 12 (some 74) #[tt,tt,tt,tt,tt,tt,ff,tt,ff,ff,ff,ff,tt,ff,ff,ff,ff,ff,ff,ff,ff,ff] rfl rfl HT_ ?_;refine pu 13 (some 75) #[tt,tt,tt,tt,tt,tt,ff,tt,ff,ff,ff,ff,tt,tt,ff,ff,ff,ff,ff,ff,ff,ff] rfl rfl HT_ ?_;refine pu 14 (some 76) #[tt,tt,tt,tt,tt,tt,ff,tt,ff,ff,ff,ff,tt,tt,tt,ff,ff,ff,ff,ff,ff,ff] rfl rfl HT_ ?_;refine pu 16 (some 78) #[tt,tt,tt,tt,tt,tt,ff,tt,ff,ff,ff,ff,tt,tt,tt,ff,tt,ff,ff,ff,ff,ff] rfl rfl HT_ ?_;refine take_ (i:=6) (N:=some 68) (v:=?_) (a':=?_) #[tt,tt,tt,tt,tt,tt,tt,tt,ff,ff,ff,ff,tt,tt,tt,ff,tt,ff,ff,ff,ff,ff] rfl rfl (take_ofW HT_.out HW_.out (by kernel_rfl)) (fun _ _ _ h=>h) (Or.inl ⟨by rfl,?_⟩) hHeld ?_ ?_;rotate_left
           ·rintro w' ⟨s0,s1,s2,s3⟩;go_simp;(with_reducible rfl)
           rotate_left
           ·simp only [Act.put,qa,qz,qs,i64_w,i32_w];rfl
           refine pu 8 (some 70) #[tt,tt,tt,tt,tt,tt,tt,tt,tt,ff,ff,ff,tt,tt,tt,ff,tt,ff,ff,ff,ff,ff] rfl rfl HT_ ?_;refine take_ (i:=9) (N:=some 71) (v:=?_) (a':=?_) #[tt,tt,tt,tt,tt,tt,tt,tt,tt,tt,ff,ff,tt,tt,tt,ff,tt,ff,ff,ff,ff,ff] rfl rfl (take_ofW HT_.out HW_.out (by kernel_rfl)) (fun _ _ _ h=>h) (Or.inl ⟨by rfl,?_⟩) hHeld ?_ ?_;rotate_left
           ·rintro w' ⟨s0,s1,s2,s3⟩;go_simp;(with_reducible rfl)
           rotate_left
           ·simp only [Act.put,qa,qz,qs,i64_w,i32_w];rfl
           refine pu 10 (some 72) #[tt,tt,tt,tt,tt,tt,tt,tt,tt,tt,tt,ff,tt,tt,tt,ff,tt,ff,ff,ff,ff,ff] rfl rfl HT_ ?_;refine pu 11 (some 73) #[tt,tt,tt,tt,tt,tt,tt,tt,tt,tt,tt,tt,tt,tt,tt,ff,tt,ff,ff,ff,ff,ff] rfl rfl HT_ ?_;refine take_ (i:=15) (N:=some 77) (v:=?_) (a':=?_) #[tt,tt,tt,tt,tt,tt,tt,tt,tt,tt,tt,tt,tt,tt,tt,tt,tt,ff,ff,ff,ff,ff] rfl rfl (take_ofW HT_.out HW_.out (by kernel_rfl)) (fun _ _ _ h=>h) (Or.inl ⟨by rfl,?_⟩) hHeld ?_ ?_;rotate_left
           ·rintro w' ⟨s0,s1,s2,s3⟩;go_simp;(with_reducible rfl)
           rotate_left
           ·simp only [Act.put,qa,qz,qs,i64_w,i32_w];rfl
           refine pu 17 (some 79) #[tt,tt,tt,tt,tt,tt,tt,tt,tt,tt,tt,tt,tt,tt,tt,tt,tt,tt,ff,ff,ff,ff] rfl rfl HT_ ?_;refine take_ (i:=18) (N:=some 80) (v:=?_) (a':=?_) #[tt,tt,tt,tt,tt,tt,tt,tt,tt,tt,tt,tt,tt,tt,tt,tt,tt,tt,tt,ff,ff,ff] rfl rfl (take_ofW HT_.out HW_.out (by kernel_rfl)) (fun _ _ _ h=>h) (Or.inl ⟨by rfl,?_⟩) hHeld ?_ ?_;rotate_left
           ·rintro w' ⟨s0,s1,s2,s3⟩;go_simp;(with_reducible rfl)
           rotate_left
           ·simp only [Act.put,qa,qz,qs,i64_w,i32_w];rfl
           refine pu 19 (some 81) #[tt,tt,tt,tt,tt,tt,tt,tt,tt,tt,tt,tt,tt,tt,tt,tt,tt,tt,tt,tt,ff,ff] rfl rfl HT_ ?_;refine pu 20 (some 82) #[tt,tt,tt,tt,tt,tt,tt,tt,tt,tt,tt,tt,tt,tt,tt,tt,tt,tt,tt,tt,tt,ff] rfl rfl HT_ ?_;refine last_ (i:=21) (N:=none) #[tt,tt,tt,tt,tt,tt,tt,tt,tt,tt,tt,tt,tt,tt,tt,tt,tt,tt,tt,tt,tt,tt] rfl rfl (one_of HT_.out (by kernel_rfl)) (by decide) (fun K hK=>?_);refine skip_ (w1:=?_) (by rfl) rfl ?_ ?_;rotate_left
           ·go_simp;rfl
           refine hK.out _ _ ?_;clear hK K;refine done_ (done_of HT_.out (by kernel_rfl)) ?_;(try go_wp2);(try simp only [← hl10_3]);go_roundg k3;(case measure=>have:=HK1.out;have:=HK2.out;have:=HK3.out;omega);(case rel=>exact ⟨(y269),(wrap64 (x12_3+1)),zt,H',⟨by have:=HK1.out;have:=HK2.out;have:=HK3.out;omega⟩,⟨by (try simp only [hl10_3]);(with_reducible repeat (first|apply Kd.R_alloc|apply Kd.R_drewN|apply Kd.R_drew));exact HQ33.out⟩,⟨zs HB.out⟩⟩)
         ·rw [if_neg c22] at H;have c22b0:decide (x12_3<(l0.length:Int))=false:=decide_eq_false c22;clear c22;obtain rfl:=Option.some.inj H;go_wp2;go_ret;exact ⟨_,by first|rfl|(simp [errW_none,errW_some]<;>rfl)|(simp [*,errW_none,errW_some]<;>rfl),zr HO_10.out,zb HB.out⟩
end Go.Proofs.Ytojkepidkmkmpaa.PFnSpan
end
