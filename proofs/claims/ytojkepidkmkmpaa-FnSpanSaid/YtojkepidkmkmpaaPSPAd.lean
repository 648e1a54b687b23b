/-
  Goes on where the text before it ends.
  Conditions: none beside the given statement's own.
-/
import Derived.Test.YtojkepidkmkmpaaPSPAc
set_option linter.unusedVariables false
set_option linter.unusedSimpArgs false
section
namespace Go.Proofs.Ytojkepidkmkmpaa.PFnSpan
open Go.Proofs.YtojkepidkmkmpaaW.PrintWords.Aside0 renaming mk → aM
open List renaming setIfInBounds_toArray → qa, set_cons_zero → qz, set_cons_succ → qs
open Bool renaming true → tt, false → ff
open Option renaming bind_eq_some_iff → bE

open Go.RowKit Go.Proofs.YtojkepidkmkmpaaW.PrintWords Go.Proofs.YtojkepidkmkmpaaW.PrintLast Go.Proofs.YtojkepidkmkmpaaW.PrintMore
attribute [local go_sem] max2_int min2_int max_two min_two max_three min_three max_four min_four
set_option linter.unusedVariables false
set_option linter.unusedSimpArgs false
def spec_DotOf.l0 : Nat → List Int → List Int → Int → Int → Option (Int)
 | 0, _, _, _, _ => none
 | k + 1, x0, x1, x5, x6 => if x6 < (x0.length : Int) then (if x6 < (x1.length : Int) then (if 0 ≤ x6 then (spec_DotOf.l0 k x0 x1 (wrap64 (x5 + (wrap64 ((rd x0 x6) * (rd x1 x6))))) (wrap64 (x6 + 1))) else (none)) else (some x5)) else (some x5)
def spec_DotOf.f (k : Nat) (l0 : List Int) (l1 : List Int) : Option (Int) := spec_DotOf.l0 k l0 l1 0 0
set_option maxHeartbeats 8000000 in
set_option maxRecDepth 100000 in
theorem spec_DotOf.calls (k : Nat) (A0 : Option Addr) (c0 : Nat) (l0 : List Int) (A1 : Option Addr) (c1 : Nat) (l1 : List Int) (r : Int) (w : World) (hr0 : Kd.C (Kd.int .i64) w A0 l0.length l0) (hc0 : l0.length ≤ c0) (hr1 : Kd.C (Kd.int .i64) w A1 l1.length l1) (hc1 : l1.length ≤ c1) (h : spec_DotOf.f k l0 l1 = some r) :
 Calls Try.prog 92 #[.slice A0 l0.length c0, .slice A1 l1.length c1] w fun e w' => e = .returned (.int .i64 r) ∧ Drawn0 w w' := by
 have HR0:=aM hr0;have HC0:=aM hc0;clear hr0 hc0;have HR1:=aM hr1;have HC1:=aM hc1;clear hr1 hc1;have H:(spec_DotOf.l0 k l0 l1 0 0)=some r:=h;clear h;have H':=aM H;clear H;go_enter Try.func92,Try.ntmps92;go_wp2;(repeat (go_quiet (fail);try go_wp2));go_loopg [5,6] k (fun kq v5 v6 w'=>∃(x5_1:Int) (x6_1:Int),v5 = .int .i64 x5_1∧v6 = .int .i64 x6_1∧Aside0 (spec_DotOf.l0 kq l0 l1 x5_1 x6_1=some r)∧Aside0 (kq≤k)∧Drawn0 w w');(case atStart=>exact ⟨(0),(0),zt,zt,H',⟨Nat.le_refl _⟩,by repeat (first|exact Drawn0.refl _|apply Drawn0.step)⟩)
 case round=>
  clear H';(try clear c1);(try clear p2);obtain ⟨x5_1,x6_1,rfl,rfl,HA,HK1,⟨m1,rfl⟩⟩:=hrel;cases gk with
  | zero=>exact absurd HA.out (by simp [spec_DotOf.l0])
  | succ k1=>
   have H:=HA.out;clear HA;simp only [spec_DotOf.l0] at H;by_cases c3:x6_1<(l0.length:Int)
   ·rw [if_pos c3] at H;have c3b0:decide (x6_1<(l0.length:Int))=true:=decide_eq_true c3;clear c3;by_cases c4:x6_1<(l1.length:Int)
    ·rw [if_pos c4] at H;have c4b0:decide (x6_1<(l1.length:Int))=true:=decide_eq_true c4;clear c4;obtain ⟨c5b0,H⟩:=iN H;have H':=aM H;clear H;have p270:0≤(x6_1:Int):=zd;have q270:x6_1<(l0.length:Int):=zd;obtain ⟨ad270,e270,hx270_0⟩:=Kd.at_int HR0.out x6_1 p270 q270;cases e270;replace p270:=eq_true p270;replace q270:=eq_true q270;have p271:0≤(x6_1:Int):=zd;have q271:x6_1<(l1.length:Int):=zd;obtain ⟨ad271,e271,hx271_0⟩:=Kd.at_int HR1.out x6_1 p271 q271;cases e271;replace p271:=eq_true p271;replace q271:=eq_true q271;go_wp2;(repeat (go_quiet (fail);try go_wp2));go_roundg k1;(case measure=>have:=HK1.out;omega);(case rel=>exact ⟨(wrap64 (x5_1+(wrap64 ((rd l0 x6_1)*(rd l1 x6_1))))),(wrap64 (x6_1+1)),zt,zt,H',⟨by have:=HK1.out;omega⟩,by repeat (first|exact Drawn0.refl _|apply Drawn0.step)⟩)
    ·rw [if_neg c4] at H;have c4b0:decide (x6_1<(l1.length:Int))=false:=decide_eq_false c4;clear c4;obtain rfl:=Option.some.inj H;go_wp2;(repeat (go_quiet (fail);try go_wp2));go_ret;exact ⟨zt,zz⟩
   ·rw [if_neg c3] at H;have c3b0:decide (x6_1<(l0.length:Int))=false:=decide_eq_false c3;clear c3;obtain rfl:=Option.some.inj H;go_wp2;(repeat (go_quiet (fail);try go_wp2));go_ret;exact ⟨zt,zz⟩
mutual
def spec_NullVector.j0 : Nat → List (List Int) → List Int → Bool → Option (List Int)
 | 0, _, _, _ => none
 | k + 1, x0, x1, x18 => if x18 = true then (some (([] : List Int))) else ((spec_ReduceRows.f k x0 (x1.length : Int)).bind fun t277 => (spec_NullVector.l0 k x1 t277 0))
def spec_NullVector.l0 : Nat → List Int → List (List Int) → Int → Option (List Int)
 | 0, _, _, _ => none
 | k + 1, x1, x5, x6 => if x6 < (x1.length : Int) then (spec_NullVector.l1 k x1 x5 x6 false 0) else (some (([] : List Int)))
def spec_NullVector.l1 : Nat → List Int → List (List Int) → Int → Bool → Int → Option (List Int)
 | 0, _, _, _, _, _ => none
 | k + 1, x1, x5, x6, x7, x8 => if x8 < (x5.length : Int) then (if x7 = true then (spec_NullVector.l1 k x1 x5 x6 true (wrap64 (x8 + 1))) else (if 0 ≤ x8 then ((spec_l5Lead.f k (rd_L1 x5 x8)).bind fun t284 => (spec_NullVector.l1 k x1 x5 x6 (t284 == x6) (wrap64 (x8 + 1)))) else (none))) else (if x7 = true then (spec_NullVector.l0 k x1 x5 (wrap64 (x6 + 1))) else ((spec_l5Null.f k x5 (x1.length : Int) x6).bind fun t285 => ((spec_DotOf.f k t285 x1).bind fun t288 => (if t288 = 0 then (spec_NullVector.l0 k x1 x5 (wrap64 (x6 + 1))) else (some t285)))))
end
def spec_NullVector.f (k : Nat) (l0 : List (List Int)) (l1 : List Int) : Option (List Int) := (spec_l5Both.f k l0 l1).bind fun t272 => (if t272 = true then ((spec_IsInSpan.f k l0 l1).bind fun t273 => (spec_NullVector.j0 k l0 l1 t273)) else (spec_NullVector.j0 k l0 l1 true))
set_option maxHeartbeats 8000000 in
set_option maxRecDepth 100000 in
theorem spec_NullVector.calls (k : Nat) (A0 : Option Addr) (c0 : Nat) (l0 : List (List Int)) (A1 : Option Addr) (c1 : Nat) (l1 : List Int) (r : List Int) (w : World) (hr0 : Kd.C (Kd.slice 3 (Kd.int .i64)) w A0 l0.length l0) (hc0 : l0.length ≤ c0) (hr1 : Kd.C (Kd.int .i64) w A1 l1.length l1) (hc1 : l1.length ≤ c1) (h : spec_NullVector.f k l0 l1 = some r) :
 Calls Try.prog 52 #[.slice A0 l0.length c0, .slice A1 l1.length c1] w fun e w' => ∃ v0_ : Value, e = .returned (v0_) ∧ Kd.R (Kd.int .i64) 3 w' w.heap.size (fun _ => True) v0_ r ∧ Below w.heap.size w w' := by
 have HR0:=aM hr0;have HC0:=aM hc0;clear hr0 hc0;have HR1:=aM hr1;have HC1:=aM hc1;clear hr1 hc1;have HB:=aM (Below.refl w.heap.size w);have H:((spec_l5Both.f k l0 l1).bind fun t272=>(if t272=true then ((spec_IsInSpan.f k l0 l1).bind fun t273=>(spec_NullVector.j0 k l0 l1 t273)) else (spec_NullVector.j0 k l0 l1 true)))=some r:=h;clear h;have HC3:=aM H;clear H;go_enter Try.func52,Try.ntmps52;go_upto_region 1 with (fail)
 go_cut [18] (fun v18 wc=>∃(kq:Nat) (x18_2:Bool),v18 = .bool x18_2∧Aside0 (spec_NullVector.j0 kq l0 l1 x18_2=some r)∧Aside0 (kq≤k)∧Aside0 (Below w.heap.size w wc))
 case first=>
  have H:=HC3.out;clear HC3;obtain ⟨t272,A4,H⟩:=bz H;by_cases c5:t272=true
  ·subst c5;replace H:=ifT H;obtain ⟨t273,A6,H⟩:=bz H;have H':=aM H;clear H;go_wp2_with (first|((with_reducible refine gate_callee (f:=87) rfl ?_);refine gm (some 12) Try.func87 #[.slice A0 l0.length c0,.slice A1 l1.length c1] ?_;(with_reducible refine (spec_l5Both.calls k _ _ l0 (fun k_=>k_<w.heap.size) _ _ l1 true _ ?side1 ?side2 ?side3 A4.out).mono ?_);(case side1=>exact zc (Kd.C_below HR0.out HB.out));(case side2=>exact HC0.out);(case side3=>exact Kd.V_mk HC1.out (Kd.F_below (Kd.C_F (Kd.heap_int .i64) HR1.out) (zb HB.out)));rintro e w7 ⟨rfl,hb⟩;refine ⟨_,rfl,?_⟩;replace HB:=aM (below_step (zb HB.out) hb);(try clear hb);(try clear hb2);(try clear hk);(try clear hi))|(go_at_call 48;(with_reducible refine (spec_IsInSpan.calls k _ _ l0 _ _ l1 t273 _ ?side1 ?side2 ?side3 ?side4 A6.out).mono ?_);(case side1=>exact zc (Kd.C_below HR0.out HB.out));(case side2=>exact HC0.out);(case side3=>exact zc (Kd.C_below HR1.out HB.out));(case side4=>exact HC1.out);rintro e w8 ⟨rfl,hb⟩;replace HB:=aM (below_step (zb HB.out) hb);(try clear hb);(try clear hb2);(try clear hk);(try clear hi)));go_meet;(case rel=>exact ⟨_,(t273),zt,H',⟨by first|omega|exact Nat.le_refl _⟩,⟨zb HB.out⟩⟩)
  ·replace c5:=Bool.eq_false_iff.mpr c5;subst c5;replace H:=ifF H;have H':=aM H;clear H;go_wp2_with (first|((with_reducible refine gate_callee (f:=87) rfl ?_);refine gm (some 12) Try.func87 #[.slice A0 l0.length c0,.slice A1 l1.length c1] ?_;(with_reducible refine (spec_l5Both.calls k _ _ l0 (fun k_=>k_<w.heap.size) _ _ l1 false _ ?side1 ?side2 ?side3 A4.out).mono ?_);(case side1=>exact zc (Kd.C_below HR0.out HB.out));(case side2=>exact HC0.out);(case side3=>exact Kd.V_mk HC1.out (Kd.F_below (Kd.C_F (Kd.heap_int .i64) HR1.out) (zb HB.out)));rintro e w9 ⟨rfl,hb⟩;refine ⟨_,rfl,?_⟩;replace HB:=aM (below_step (zb HB.out) hb);(try clear hb);(try clear hb2);(try clear hk);(try clear hi)));go_meet;(case rel=>exact ⟨_,(true),zt,H',⟨by first|omega|exact Nat.le_refl _⟩,⟨zb HB.out⟩⟩)
 case rest=>
  clear HC3;(try clear c1);(try clear p2);(try clear c5);(try clear c8);obtain ⟨kq,x18_2,rfl,HA,HJ2,HB⟩:=hcut;cases kq with
  | zero=>exact absurd HA.out (by simp [spec_NullVector.j0])
  | succ kj2=>
   have H:=HA.out;clear HA;simp only [spec_NullVector.j0] at H;by_cases c10:x18_2=true
   ·subst c10;replace H:=ifT H;obtain ⟨y274,hy274⟩:∃y_:List Int,y_=(([]:List Int)):=⟨_,rfl⟩;replace H:(some y274)=some r:=(by first|(rw [hy274];with_reducible exact H)|(have H2_:=(Option.bind_some _ _).symm.trans H;rw [hy274];with_reducible exact H2_)|(have H2_:=(Option.bind_some _ _).symm.trans H;with_reducible exact H2_)|with_reducible exact H|(rw [hy274];exact H)|exact H);have Ny274:=aM hy274;clear hy274;obtain rfl:=Option.some.inj H;go_wp2_with (first|((with_reducible refine gate_dst (N:=19) rfl ?_);refine Kd.R_lit (Kd.int .i64) _ 3 ?hg (N:=19) ?hd (xs:=([]:List Int)) (inner:=[]) (ok:=fun _=>True) (okp:=fun _=>True) ?hr ?hp (fun _ hk=>hk) trivial (Below.refl _ _) (Nat.le_refl _) (by simp) ?_;(case hd=>rfl);(case hg=>rfl);(case hr=>first|(go_simp;done)|(go_simp;rfl));(case hp=>exact (Reps.none _ _));intro v275 w11 ho12 hb hg_ hnew_;clear hg_ hnew_;(first|rw [← Ny274.out] at ho12|(simp only [Int.reduceToNat] at ho12;rw [← Ny274.out] at ho12));have HO276:=aM (Kd.R_lower ho12 (below_size (zb HB.out)));replace HB:=aM (below_step (zb HB.out) hb);clear hb ho12));go_ret;exact ⟨_,by first|rfl|(simp [errW_none,errW_some]<;>rfl)|(simp [*,errW_none,errW_some]<;>rfl),zr HO276.out,zb HB.out⟩
   ·replace c10:=Bool.eq_false_iff.mpr c10;subst c10;replace H:=ifF H;obtain ⟨t277,A13,H⟩:=bz H;have H':=aM H;clear H;go_wp2_with (first|((with_reducible refine gate_callee (f:=50) rfl ?_);refine gm (some 23) Try.func50 #[.slice A0 l0.length c0,.int .i64 (l1.length:Int)] ?_;(with_reducible refine (spec_ReduceRows.calls kj2 _ _ l0 (l1.length:Int) t277 _ ?side1 ?side2 A13.out).mono ?_);(case side1=>exact zc (Kd.C_below HR0.out HB.out));(case side2=>exact HC0.out);rintro e w14 ⟨v278,rfl,ho0,hb⟩;refine ⟨_,rfl,?_⟩;have HO279:=aM (Kd.N_lower (Kd.N_mono (ok':=fun k_=>True) ho0 (fun k_ hk_=>trivial)) (below_size (zb HB.out)));replace HB:=aM (below_step (zb HB.out) hb);(try clear hb);(try clear hb2);(try clear hk);(try clear hi);(try clear ho0)));go_loopg [6] kj2 (fun kq v6 w'=>∃(x6_2:Int),v6 = .int .i64 x6_2∧Aside0 (spec_NullVector.l0 kq l1 t277 x6_2=some r)∧Aside0 (kq≤kj2)∧Aside0 (Kd.N (Kd.slice 3 (Kd.int .i64)) 23 w' w.heap.size (fun _=>True) v278 t277)∧Aside0 (Below w.heap.size w w'));(case atStart=>exact ⟨(0),zt,H',⟨Nat.le_refl _⟩,⟨zn HO279.out⟩,⟨zb HB.out⟩⟩)
    case round=>
     clear H';(try clear c1);(try clear p2);(try clear c5);(try clear c8);(try clear c10);(try clear p2);obtain ⟨x6_2,rfl,HA,HK2,HO_5,HB⟩:=hrel;cases gk with
     | zero=>exact absurd HA.out (by simp [spec_NullVector.l0])
     | succ k2=>
      have H:=HA.out;clear HA;simp only [spec_NullVector.l0] at H;by_cases c15:x6_2<(l1.length:Int)
      ·rw [if_pos c15] at H;have c15b0:decide (x6_2<(l1.length:Int))=true:=decide_eq_true c15;clear c15;have H':=aM H;clear H;go_wp2;go_loopg [7,8] k2 (fun kq v7 v8 w'=>∃(x7_3:Bool) (x8_3:Int),v7 = .bool x7_3∧v8 = .int .i64 x8_3∧Aside0 (spec_NullVector.l1 kq l1 t277 x6_2 x7_3 x8_3=some r)∧Aside0 (kq≤k2)∧Aside0 (Kd.N (Kd.slice 3 (Kd.int .i64)) 23 w' w.heap.size (fun _=>True) v278 t277)∧Aside0 (Below w.heap.size w w'));(case atStart=>exact ⟨(false),(0),zt,zt,H',⟨Nat.le_refl _⟩,⟨zn HO_5.out⟩,⟨zb HB.out⟩⟩)
       case round=>
        clear H';(try clear c1);(try clear p2);(try clear c5);(try clear c8);(try clear c10);(try clear c15);(try clear c15b0);(try clear p2);obtain ⟨x7_3,x8_3,rfl,rfl,HA,HK3,HO_5,HB⟩:=hrel;cases gk with
        | zero=>exact absurd HA.out (by simp [spec_NullVector.l1])
        | succ k3=>
         have H:=HA.out;clear HA;simp only [spec_NullVector.l1] at H;by_cases c16:x8_3<(t277.length:Int)
         ·rw [if_pos c16] at H;have c16b0:decide (x8_3<(t277.length:Int))=true:=decide_eq_true c16;clear c16;by_cases c17:x7_3=true
          ·subst c17;replace H:=ifT H;have H':=aM H;clear H;obtain ⟨Ao18,co18,eo18⟩:=Kd.N_slice HO_5.out;subst eo18;go_wp2;go_roundg k3;(case measure=>have:=HJ2.out;have:=HK2.out;have:=HK3.out;omega);(case rel=>exact ⟨(true),(wrap64 (x8_3+1)),zt,zt,H',⟨by have:=HJ2.out;have:=HK2.out;have:=HK3.out;omega⟩,⟨zn HO_5.out⟩,⟨zb HB.out⟩⟩)
          ·replace c17:=Bool.eq_false_iff.mpr c17;subst c17;replace H:=ifF H;obtain ⟨c19b0,H⟩:=iN H;obtain ⟨t284,A20,H⟩:=bz H;have H':=aM H;clear H;obtain ⟨Ao21,co21,eo21⟩:=Kd.N_slice HO_5.out;subst eo21;have p283:0≤(x8_3:Int):=zd;have q283:x8_3<(t277.length:Int):=zd;obtain ⟨ad283,A283_0,c283_0,e283,hx283_0,hl283_0,hi283_0⟩:=at_L1 (Kd.N_reads' HO_5.out).2.2 x8_3 p283 q283;cases e283;obtain ⟨ce283,hce283,hMe283,hcc283⟩:=Kd.N_get HO_5.out [] x8_3 p283 (by first|exact q283|exact zd|(have e_:=(Kd.N_reads' HO_5.out).1;omega));obtain ⟨ua283_0,uc283_0,rfl,ul283_0,ge283_0⟩:=Kd.FK_slice_open hMe283;have hv283_0:=hcc283 0 _ rfl;rw [Nat.add_zero,show ((Kd.slice 3 (Kd.int .i64))).sz=1 from rfl,Nat.mul_one] at hv283_0;replace hv283_0:=Option.some.inj (hv283_0.symm.trans hx283_0);injection hv283_0 with hva_ hvn_ hvc_
           rw [hva_] at ge283_0;rw [hvc_] at ul283_0;have HL283_0:=aM (show Kd.V (Kd.int .i64) 3 _ w.heap.size _ _ (rd_L1 t277 x8_3) from Kd.V_mk ul283_0 ge283_0);clear hva_ hvn_ hvc_ ge283_0 ul283_0 hcc283 hce283;have HR283_0:=aM hi283_0;have HC283_0:=aM hl283_0;clear hi283_0 hl283_0;replace p283:=eq_true p283;replace q283:=eq_true q283;go_wp2_with (first|(go_at_call 69;(with_reducible refine (spec_l5Lead.calls k3 _ _ (rd_L1 t277 x8_3) t284 _ ?side1 ?side2 A20.out).mono ?_);(case side1=>exact zc HR283_0.out);(case side2=>exact HC283_0.out);rintro e w' ⟨rfl,⟨nd,rfl⟩⟩));go_roundg k3;(case measure=>have:=HJ2.out;have:=HK2.out;have:=HK3.out;omega);(case rel=>exact ⟨((t284 == x6_2)),(wrap64 (x8_3+1)),zt,zt,H',⟨by have:=HJ2.out;have:=HK2.out;have:=HK3.out;omega⟩,⟨zn HO_5.out⟩,⟨zb HB.out⟩⟩)
         ·rw [if_neg c16] at H;have c16b0:decide (x8_3<(t277.length:Int))=false:=decide_eq_false c16;clear c16;by_cases c22:x7_3=true
          ·subst c22;replace H:=ifT H;have H':=aM H;clear H;obtain ⟨Ao23,co23,eo23⟩:=Kd.N_slice HO_5.out;subst eo23;go_wp2;go_roundg k3;(case measure=>have:=HJ2.out;have:=HK2.out;have:=HK3.out;omega);(case rel=>exact ⟨(wrap64 (x6_2+1)),zt,H',⟨by have:=HJ2.out;have:=HK2.out;have:=HK3.out;omega⟩,⟨zn HO_5.out⟩,⟨zb HB.out⟩⟩)
          ·replace c22:=Bool.eq_false_iff.mpr c22;subst c22;replace H:=ifF H;obtain ⟨t285,A24,H⟩:=bz H;obtain ⟨t288,A25,H⟩:=bz H;by_cases c26:t288=0
           ·rw [if_pos c26] at H;have c26b0:(t288 == 0)=true:=beq_iff_eq.mpr c26;have c26b1:(t288 != 0)=false:=bne_eq_false_iff_eq.mpr c26;clear c26;have H':=aM H;clear H;obtain ⟨Ao27,co27,eo27⟩:=Kd.N_slice HO_5.out;subst eo27;go_wp2_with (first|((with_reducible refine gate_callee (f:=91) rfl ?_);refine gm (some 51) Try.func91 #[.slice Ao27 t277.length co27,.int .i64 (l1.length:Int),.int .i64 x6_2] ?_;(with_reducible refine (spec_l5Null.calls k3 _ _ t277 (l1.length:Int) x6_2 t285 _ ?side1 ?side2 A24.out).mono ?_);(case side1=>exact zc (Kd.N_reads' HO_5.out).2.2);(case side2=>exact (Kd.N_reads' HO_5.out).2.1);rintro e w28 ⟨v286,rfl,ho0,hb⟩;refine ⟨_,rfl,?_⟩;replace HO_5:=aM (Kd.N_elder' (zn HO_5.out) (Kd.R_base ho0) hb);have HO287:=aM (Kd.R_lower ho0 (below_size (zb HB.out)));replace HB:=aM (below_step (zb HB.out) hb);(try clear hb);(try clear hb2);(try clear hk);(try clear hi);(try clear ho0);obtain ⟨Ao29,co29,eo29⟩:=Kd.R_slice HO287.out;subst eo29)|((with_reducible refine gate_callee (f:=92) rfl ?_);refine gm (some 54) Try.func92 #[.slice Ao29 t285.length co29,.slice A1 l1.length c1] ?_;(with_reducible refine (spec_DotOf.calls k3 _ _ t285 _ _ l1 t288 _ ?side1 ?side2 ?side3 ?side4 A25.out).mono ?_);(case side1=>exact zc (Kd.R_reads' HO287.out).2.2);(case side2=>exact (Kd.R_reads' HO287.out).2.1);(case side3=>exact zc (Kd.C_below HR1.out HB.out));(case side4=>exact HC1.out);rintro e w' ⟨rfl,⟨nd,rfl⟩⟩;refine ⟨_,rfl,?_⟩));go_roundg k3;(case measure=>have:=HJ2.out;have:=HK2.out;have:=HK3.out;omega);(case rel=>exact ⟨(wrap64 (x6_2+1)),zt,H',⟨by have:=HJ2.out;have:=HK2.out;have:=HK3.out;omega⟩,⟨by (with_reducible repeat (first|apply Kd.N_alloc|apply Kd.N_drewN|apply Kd.N_drew));exact Kd.N_mono HO_5.out (fun _ hk=>trivial)⟩,⟨zb HB.out⟩⟩)
           ·rw [if_neg c26] at H;have c26b0:(t288 == 0)=false:=beq_eq_false_iff_ne.mpr c26;have c26b1:(t288 != 0)=true:=bne_iff_ne.mpr c26;obtain rfl:=Option.some.inj H;obtain ⟨Ao30,co30,eo30⟩:=Kd.N_slice HO_5.out;subst eo30;go_wp2_with (first|((with_reducible refine gate_callee (f:=91) rfl ?_);refine gm (some 51) Try.func91 #[.slice Ao30 t277.length co30,.int .i64 (l1.length:Int),.int .i64 x6_2] ?_;(with_reducible refine (spec_l5Null.calls k3 _ _ t277 (l1.length:Int) x6_2 t285 _ ?side1 ?side2 A24.out).mono ?_);(case side1=>exact zc (Kd.N_reads' HO_5.out).2.2);(case side2=>exact (Kd.N_reads' HO_5.out).2.1);rintro e w31 ⟨v286,rfl,ho0,hb⟩;refine ⟨_,rfl,?_⟩;replace HO_5:=aM (Kd.N_elder' (zn HO_5.out) (Kd.R_base ho0) hb);have HO287:=aM (Kd.R_lower ho0 (below_size (zb HB.out)));replace HB:=aM (below_step (zb HB.out) hb);(try clear hb);(try clear hb2);(try clear hk);(try clear hi);(try clear ho0);obtain ⟨Ao32,co32,eo32⟩:=Kd.R_slice HO287.out;subst eo32)|((with_reducible refine gate_callee (f:=92) rfl ?_);refine gm (some 54) Try.func92 #[.slice Ao32 t285.length co32,.slice A1 l1.length c1] ?_;(with_reducible refine (spec_DotOf.calls k3 _ _ t285 _ _ l1 t288 _ ?side1 ?side2 ?side3 ?side4 A25.out).mono ?_);(case side1=>exact zc (Kd.R_reads' HO287.out).2.2);(case side2=>exact (Kd.R_reads' HO287.out).2.1);(case side3=>exact zc (Kd.C_below HR1.out HB.out));(case side4=>exact HC1.out);rintro e w' ⟨rfl,⟨nd,rfl⟩⟩;refine ⟨_,rfl,?_⟩));go_ret;exact ⟨_,by first|rfl|(simp [errW_none,errW_some]<;>rfl)|(simp [*,errW_none,errW_some]<;>rfl),zr HO287.out,zb HB.out⟩
      ·rw [if_neg c15] at H;have c15b0:decide (x6_2<(l1.length:Int))=false:=decide_eq_false c15;clear c15;obtain ⟨y280,hy280⟩:∃y_:List Int,y_=(([]:List Int)):=⟨_,rfl⟩;replace H:(some y280)=some r:=(by first|(rw [hy280];with_reducible exact H)|(have H2_:=(Option.bind_some _ _).symm.trans H;rw [hy280];with_reducible exact H2_)|(have H2_:=(Option.bind_some _ _).symm.trans H;with_reducible exact H2_)|with_reducible exact H|(rw [hy280];exact H)|exact H);have Ny280:=aM hy280;clear hy280;obtain rfl:=Option.some.inj H;go_wp2_with (first|((with_reducible refine gate_dst (N:=57) rfl ?_);refine Kd.R_lit (Kd.int .i64) _ 3 ?hg (N:=57) ?hd (xs:=([]:List Int)) (inner:=[]) (ok:=fun _=>True) (okp:=fun _=>True) ?hr ?hp (fun _ hk=>hk) trivial (Below.refl _ _) (Nat.le_refl _) (by simp) ?_;(case hd=>rfl);(case hg=>rfl);(case hr=>first|(go_simp;done)|(go_simp;rfl));(case hp=>exact (Reps.none _ _));intro v281 w33 ho34 hb hg_ hnew_;clear hg_ hnew_;(first|rw [← Ny280.out] at ho34|(simp only [Int.reduceToNat] at ho34;rw [← Ny280.out] at ho34));replace HO_5:=aM (Kd.N_elder' (zn HO_5.out) (Kd.R_base ho34) hb);have HO282:=aM (Kd.R_lower ho34 (below_size (zb HB.out)));replace HB:=aM (below_step (zb HB.out) hb);clear hb ho34));go_ret;exact ⟨_,by first|rfl|(simp [errW_none,errW_some]<;>rfl)|(simp [*,errW_none,errW_some]<;>rfl),zr HO282.out,zb HB.out⟩
def IsS89 (w0 W : World) (g : Nat) (f0 : List Int) (f1 : Int) (f2 : Int) : Prop := ∃ A0 c0, W.heap[g]? = some (.cells #[.slice A0 f0.length c0, .int .i64 f1, .int .i64 f2] 89 (0, 0)) ∧ w0.heap.size ≤ g ∧ Kd.C (Kd.int .u8) w0 A0 f0.length f0
theorem IsS89.grown {w0 W : World} {g : Nat} {f0 : List Int} {f1 : Int} {f2 : Int} {W1 : World} {row : Option Nat} (h : IsS89 w0 W g f0 f1 f2) (hw : W.grownBy W1 row) (hne : some g ≠ row) : IsS89 w0 W1 g f0 f1 f2 := by
 obtain ⟨A0, c0, hb, hg, hr0⟩ := h
 exact ⟨A0, c0, blk_grown hb hw hne, hg, hr0⟩
theorem IsS89.below {w0 W : World} {g : Nat} {f0 : List Int} {f1 : Int} {f2 : Int} {W1 : World} (h : IsS89 w0 W g f0 f1 f2) (hw : Below W.heap.size W W1) : IsS89 w0 W1 g f0 f1 f2 := h.grown (grown_of_below hw none) (by simp)
theorem IsS89.alloc {w0 W : World} {g : Nat} {f0 : List Int} {f1 : Int} {f2 : Int} (h : IsS89 w0 W g f0 f1 f2) (o : Obj) : IsS89 w0 (W.alloc o) g f0 f1 f2 := h.below (below_alloc (Below.refl _ _) o)
theorem IsS89.drewN {w0 W : World} {g : Nat} {f0 : List Int} {f1 : Int} {f2 : Int} (h : IsS89 w0 W g f0 f1 f2) (m : Nat) : IsS89 w0 (W.drewN m) g f0 f1 f2 := h
theorem IsS89.drew {w0 W : World} {g : Nat} {f0 : List Int} {f1 : Int} {f2 : Int} (h : IsS89 w0 W g f0 f1 f2) : IsS89 w0 W.drew g f0 f1 f2 := h
theorem IsS89.at_ {w0 W : World} {g : Nat} {f0 : List Int} {f1 : Int} {f2 : Int} {w' : World} {m : Nat} (hq : W.drewN m = w') (h : IsS89 w0 W g f0 f1 f2) : IsS89 w0 w' g f0 f1 f2 := by subst hq; exact IsS89.drewN h m
theorem IsS89.apart {w0 W : World} {g : Nat} {f0 : List Int} {f1 : Int} {f2 : Int} {α : Type} {d : Kd α} {e : Nat} {base : Nat} {ok : Nat → Prop} {v : Value} {xs : List α} (h : IsS89 w0 W g f0 f1 f2) (ho : d.R e W base ok v xs) (ht : ∀ q, q ∈ e :: d.E → q ≠ 89) : d.R e W base (fun k => ok k ∧ k ≠ g) v xs := by
 obtain ⟨A0, c0, hb, hg, hr0⟩ := h
 exact Kd.R_types ho hb ht
theorem IsS89.own_ne {w0 W : World} {g : Nat} {f0 : List Int} {f1 : Int} {f2 : Int} {α : Type} {d : Kd α} {e : Nat} {base : Nat} {ok : Nat → Prop} {v : Value} {xs : List α} (h : IsS89 w0 W g f0 f1 f2) (ho : d.R e W base ok v xs) (ht : e ≠ 89) : some g ≠ v.ownBlock := by
 obtain ⟨A0, c0, hb, hg, hr0⟩ := h
 exact Kd.R_ne ho hb ht
theorem IsS89.apartS {w0 W : World} {g : Nat} {f0 : List Int} {f1 : Int} {f2 : Int} {α : Type} {d : Kd α} {e : Nat} {base : Nat} {ok : Nat → Prop} {v : Value} {xs : List α} (h : IsS89 w0 W g f0 f1 f2) (ho : d.S e W base ok v xs) (ht : ∀ q, q ∈ e :: d.E → q ≠ 89) : d.S e W base (fun k => ok k ∧ k ≠ g) v xs := by
 obtain ⟨A0, c0, hb, hg, hr0⟩ := h
 exact Kd.S_types ho hb ht
theorem IsS89.own_neS {w0 W : World} {g : Nat} {f0 : List Int} {f1 : Int} {f2 : Int} {α : Type} {d : Kd α} {e : Nat} {base : Nat} {ok : Nat → Prop} {v : Value} {xs : List α} (h : IsS89 w0 W g f0 f1 f2) (ho : d.S e W base ok v xs) (ht : e ≠ 89) : some g ≠ v.ownBlock := by
 obtain ⟨A0, c0, hb, hg, hr0⟩ := h
 exact Kd.S_ne ho hb ht
theorem IsS89.ge {w0 W : World} {g : Nat} {f0 : List Int} {f1 : Int} {f2 : Int} (h : IsS89 w0 W g f0 f1 f2) : w0.heap.size ≤ g := by
 obtain ⟨A0, c0, hb, hg, hr0⟩ := h
 exact hg
theorem IsS89.far {w0 W : World} {g : Nat} {f0 : List Int} {f1 : Int} {f2 : Int} {p : Addr} (h : IsS89 w0 W g f0 f1 f2) (hne : g ≠ p.block) (u : Value) : IsS89 w0 (W.setCell p u) g f0 f1 f2 := by
 obtain ⟨A0, c0, hb, hg, hr0⟩ := h
 exact ⟨A0, c0, blk_far hb hne u, hg, hr0⟩
theorem cellS89_0 {W : World} {g : Nat} {A0 : Option Addr} {c0 : Nat} {f0 : List Int} {f1 : Int} {f2 : Int} (h : W.heap[g]? = some (.cells #[.slice A0 f0.length c0, .int .i64 f1, .int .i64 f2] 89 (0, 0))) : W.cell? ⟨g, 0, none⟩ = some (.slice A0 f0.length c0) := (blk_cell h 0).trans rfl
theorem cellS89_1 {W : World} {g : Nat} {A0 : Option Addr} {c0 : Nat} {f0 : List Int} {f1 : Int} {f2 : Int} (h : W.heap[g]? = some (.cells #[.slice A0 f0.length c0, .int .i64 f1, .int .i64 f2] 89 (0, 0))) : W.cell? ⟨g, 1, none⟩ = some (.int .i64 f1) := (blk_cell h 1).trans rfl
theorem IsS89.set_1 {w0 W : World} {g : Nat} {f0 : List Int} {f1 : Int} {f2 : Int} (h : IsS89 w0 W g f0 f1 f2) (x : Int) : IsS89 w0 (W.setCell ⟨g, 1, none⟩ (.int .i64 x)) g f0 x f2 := by
 obtain ⟨A0, c0, hb, hg, hr0⟩ := h
 exact ⟨A0, c0, by simpa using blk_set hb 1 (.int .i64 x), hg, hr0⟩
theorem cellS89_2 {W : World} {g : Nat} {A0 : Option Addr} {c0 : Nat} {f0 : List Int} {f1 : Int} {f2 : Int} (h : W.heap[g]? = some (.cells #[.slice A0 f0.length c0, .int .i64 f1, .int .i64 f2] 89 (0, 0))) : W.cell? ⟨g, 2, none⟩ = some (.int .i64 f2) := (blk_cell h 2).trans rfl
theorem IsS89.set_2 {w0 W : World} {g : Nat} {f0 : List Int} {f1 : Int} {f2 : Int} (h : IsS89 w0 W g f0 f1 f2) (x : Int) : IsS89 w0 (W.setCell ⟨g, 2, none⟩ (.int .i64 x)) g f0 f1 x := by
 obtain ⟨A0, c0, hb, hg, hr0⟩ := h
 exact ⟨A0, c0, by simpa using blk_set hb 2 (.int .i64 x), hg, hr0⟩
def spec_l1New.l0 : Nat → List Int → Int → Int → Option (List Int × Int × Int)
 | 0, _, _, _ => none
 | k + 1, x0, x3, x4 => if x4 < (x0.length : Int) then (if x4 < 4000 then (if 0 ≤ x4 then (spec_l1New.l0 k x0 (Go.bits .and .i64 (wrap64 ((wrap64 ((wrap64 (x3 * 137)) + (wrap64 (rd x0 x4)))) + 11)) 1073741823) (wrap64 (x4 + 1))) else (none)) else (some (x0, 0, x3))) else (some (x0, 0, x3))
def spec_l1New.f (k : Nat) (l0 : List Int) : Option (List Int × Int × Int) := spec_l1New.l0 k l0 (wrap64 (193017 + (l0.length : Int))) 0
set_option maxHeartbeats 8000000 in
set_option maxRecDepth 100000 in
theorem spec_l1New.calls (k : Nat) (A0 : Option Addr) (c0 : Nat) (l0 : List Int) (r1 : List Int) (r2 : Int) (r3 : Int) (w0 w : World) (hB : Below w0.heap.size w0 w) (hr0 : Kd.C (Kd.int .u8) w0 A0 l0.length l0) (hc0 : l0.length ≤ c0) (h : spec_l1New.f k l0 = some (r1, r2, r3)) :
 Calls Try.prog 62 #[.slice A0 l0.length c0] w fun e w' => ∃ g_ : Nat, e = .returned (.pointer (some ⟨g_, 0, none⟩)) ∧ IsS89 w0 w' g_ r1 r2 r3 ∧ Below w0.heap.size w0 w' ∧ Below w.heap.size w w' := by
 have hu89:=Try.underlying89;have HR0:=aM hr0;have HC0:=aM hc0;clear hr0 hc0;have HBW:=aM (Below.refl w.heap.size w);have HW0:=aM hB.size;have HB:=aM hB;clear hB;have H:(spec_l1New.l0 k l0 (wrap64 (193017+(l0.length:Int))) 0)=some (r1,r2,r3):=h;clear h;have H':=aM H;clear H;go_enter Try.func62,Try.ntmps62;go_wp2;go_loopg [3,4] k (fun kq v3 v4 w'=>∃(x3_1:Int) (x4_1:Int),v3 = .int .i64 x3_1∧v4 = .int .i64 x4_1∧Aside0 (spec_l1New.l0 kq l0 x3_1 x4_1=some (r1,r2,r3))∧Aside0 (kq≤k)∧Aside0 (Below w0.heap.size w0 w')∧Aside0 (Below w.heap.size w w'));(case atStart=>exact ⟨(wrap64 (193017+(l0.length:Int))),(0),zt,zt,H',⟨Nat.le_refl _⟩,⟨zb HB.out⟩,⟨zb HBW.out⟩⟩)
 case round=>
  clear H' HBW;obtain ⟨x3_1,x4_1,rfl,rfl,HA,HK1,HB,HBW⟩:=hrel;cases gk with
  | zero=>exact absurd HA.out (by simp [spec_l1New.l0])
  | succ k1=>
   have H:=HA.out;clear HA;simp only [spec_l1New.l0] at H;by_cases c2:x4_1<(l0.length:Int)
   ·rw [if_pos c2] at H;have c2b0:decide (x4_1<(l0.length:Int))=true:=decide_eq_true c2;clear c2;by_cases c3:x4_1<4000
    ·rw [if_pos c3] at H;have c3b0:decide (x4_1<4000)=true:=decide_eq_true c3;clear c3;obtain ⟨c4b0,H⟩:=iN H;have H':=aM H;clear H;have p289:0≤(x4_1:Int):=zd;have q289:x4_1<(l0.length:Int):=zd;obtain ⟨ad289,e289,hx289_0⟩:=Kd.at_int HR0.out x4_1 p289 q289;cases e289;replace hx289_0:=pw_cell_below HB.out hx289_0;replace p289:=eq_true p289;replace q289:=eq_true q289;go_wp2;go_roundg k1;(case measure=>have:=HK1.out;omega);(case rel=>exact ⟨(Go.bits .and .i64 (wrap64 ((wrap64 ((wrap64 (x3_1*137))+(wrap64 (rd l0 x4_1))))+11)) 1073741823),(wrap64 (x4_1+1)),zt,zt,H',⟨by have:=HK1.out;omega⟩,⟨zb HB.out⟩,⟨zb HBW.out⟩⟩)
    ·rw [if_neg c3] at H;have c3b0:decide (x4_1<4000)=false:=decide_eq_false c3;clear c3;simp only [Option.some.injEq,Prod.mk.injEq] at H;obtain ⟨rfl,rfl,rfl⟩:=H;go_wp2_with (first|((with_reducible refine gate_dst (N:=31) rfl ?_);refine box_event ?hg (N:=31) ?hd (cs:=#[.slice A0 l0.length c0,.int .i64 0,.int .i64 x3_1]) (t:=89) ?hr ?_;(case hd=>rfl);(case hg=>rfl);(case hr=>first|(go_simp;done)|(go_simp;rfl));intro gb290 hg w5 hbox hb;replace HB:=aM (below_step (zb HB.out) hb);have BK290:=aM (hbox);have GW290:=aM ((zg hg (zb HBW.out)));have GE290:=aM ((Nat.le_trans HW0.out (zg hg (zb HBW.out)):w0.heap.size≤gb290));replace HBW:=aM (below_step HBW.out hb);clear hb hbox hg));go_ret;exact ⟨_,rfl,(show IsS89 w0 _ gb290 l0 0 x3_1 from ⟨_,_,zk BK290.out,GE290.out,HR0.out⟩),zs HB.out,zs HBW.out⟩
   ·rw [if_neg c2] at H;have c2b0:decide (x4_1<(l0.length:Int))=false:=decide_eq_false c2;clear c2;simp only [Option.some.injEq,Prod.mk.injEq] at H;obtain ⟨rfl,rfl,rfl⟩:=H;go_wp2_with (first|((with_reducible refine gate_dst (N:=31) rfl ?_);refine box_event ?hg (N:=31) ?hd (cs:=#[.slice A0 l0.length c0,.int .i64 0,.int .i64 x3_1]) (t:=89) ?hr ?_;(case hd=>rfl);(case hg=>rfl);(case hr=>first|(go_simp;done)|(go_simp;rfl));intro gb291 hg w6 hbox hb;replace HB:=aM (below_step (zb HB.out) hb);have BK291:=aM (hbox);have GW291:=aM ((zg hg (zb HBW.out)));have GE291:=aM ((Nat.le_trans HW0.out (zg hg (zb HBW.out)):w0.heap.size≤gb291));replace HBW:=aM (below_step HBW.out hb);clear hb hbox hg));go_ret;exact ⟨_,rfl,(show IsS89 w0 _ gb291 l0 0 x3_1 from ⟨_,_,zk BK291.out,GE291.out,HR0.out⟩),zs HB.out,zs HBW.out⟩
def spec_l1Byte.f (s0_0 : List Int) (s0_1 : Int) (s0_2 : Int) : Option (Int × Int × Int) := if s0_1 < (s0_0.length : Int) then (if 0 ≤ s0_1 then (some (Go.bits .and .i64 (wrap64 ((Go.bits .and .i64 (Go.bits .xor .i64 ((wrap64 ((wrap64 (s0_2 * 6364136223846793005)) + 1442695040888963407)) / 8589934592) ((wrap64 ((wrap64 (s0_2 * 6364136223846793005)) + 1442695040888963407)) / 140737488355328)) 255) + (wrap64 (rd s0_0 s0_1)))) 255, wrap64 (s0_1 + 1), wrap64 ((wrap64 (s0_2 * 6364136223846793005)) + 1442695040888963407))) else (none)) else (some (Go.bits .and .i64 (Go.bits .xor .i64 ((wrap64 ((wrap64 (s0_2 * 6364136223846793005)) + 1442695040888963407)) / 8589934592) ((wrap64 ((wrap64 (s0_2 * 6364136223846793005)) + 1442695040888963407)) / 140737488355328)) 255, s0_1, wrap64 ((wrap64 (s0_2 * 6364136223846793005)) + 1442695040888963407)))
set_option maxHeartbeats 8000000 in
set_option maxRecDepth 100000 in
theorem spec_l1Byte.calls (g : Nat) (s0_0 : List Int) (s0_1 : Int) (s0_2 : Int) (r1 : Int) (r2 : Int) (r3 : Int) (w0 w : World) (hI : IsS89 w0 w g s0_0 s0_1 s0_2) (hB : Below w0.heap.size w0 w) (h : spec_l1Byte.f s0_0 s0_1 s0_2 = some (r1, r2, r3)) :
 Calls Try.prog 98 #[.pointer (some ⟨g, 0, none⟩)] w fun e w' => e = .returned (.int .i64 r1) ∧ IsS89 w0 w' g s0_0 r2 r3 ∧ Below w0.heap.size w0 w' ∧ KeepBut w w' g none := by
 have HI0:=aM hI;have HK:=aM (KeepBut.refl w g none);have HL:=aM hB.size;clear hI;have HW0:=aM hB.size;have HB:=aM hB;clear hB;have H:(if s0_1<(s0_0.length:Int) then (if 0≤s0_1 then (some (Go.bits .and .i64 (wrap64 ((Go.bits .and .i64 (Go.bits .xor .i64 ((wrap64 ((wrap64 (s0_2*6364136223846793005))+1442695040888963407)) / 8589934592) ((wrap64 ((wrap64 (s0_2*6364136223846793005))+1442695040888963407)) / 140737488355328)) 255)+(wrap64 (rd s0_0 s0_1)))) 255,wrap64 (s0_1+1),wrap64 ((wrap64 (s0_2*6364136223846793005))+1442695040888963407))) else (none)) else (some (Go.bits .and .i64 (Go.bits .xor .i64 ((wrap64 ((wrap64 (s0_2*6364136223846793005))+1442695040888963407)) / 8589934592) ((wrap64 ((wrap64 (s0_2*6364136223846793005))+1442695040888963407)) / 140737488355328)) 255,s0_1,wrap64 ((wrap64 (s0_2*6364136223846793005))+1442695040888963407))))=some (r1,r2,r3):=h;clear h;by_cases c2:s0_1<(s0_0.length:Int)
 ·rw [if_pos c2] at H;have c2b0:decide (s0_1<(s0_0.length:Int))=true:=decide_eq_true c2;clear c2;obtain ⟨c3b0,H⟩:=iN H;simp only [Option.some.injEq,Prod.mk.injEq] at H;obtain ⟨rfl,rfl,rfl⟩:=H;obtain ⟨ASz4_0,cSz4_0,HGz4,hgz4,HSz4_0⟩:=HI0.out;have hcz4_0:=cellS89_0 HGz4;have hcz4_1:=cellS89_1 HGz4;have hcz4_2:=cellS89_2 HGz4;have hfz4_1:=blk_frozen HGz4 1;have hfz4_2:=blk_frozen HGz4 2;clear HGz4 hgz4;have p292:0≤(s0_1:Int):=zd;have q292:s0_1<(s0_0.length:Int):=zd;obtain ⟨ad292,e292,hx292_0⟩:=Kd.at_int HSz4_0 s0_1 p292 q292;cases e292;have hn292_0:ad292.block≠g:=Nat.ne_of_lt (Nat.lt_of_lt_of_le (by have:=World.block_lt_of_cell? _ _ hx292_0;first|rwa [add_block] at this|exact this) (IsS89.ge HI0.out));replace hx292_0:=pw_cell_below HB.out hx292_0;replace hx292_0:=(cell_far (p:=⟨g,2,none⟩) (by first|(rw [add_block];exact hn292_0)|(show (Addr.add _ _).block≠_;rw [add_block];exact hn292_0)|exact hn292_0) (.int .i64 (wrap64 ((wrap64 (s0_2*6364136223846793005))+1442695040888963407)))).trans hx292_0;(try have hy292_0:=fun (n_:Nat)=>(show (((w.drewN n_).setCell ⟨g,2,none⟩ (.int .i64 (wrap64 ((wrap64 (s0_2*6364136223846793005))+1442695040888963407))))).cell? _=some _ from hx292_0));clear hn292_0;replace p292:=eq_true p292;replace q292:=eq_true q292;go_enter Try.func98,Try.ntmps98;go_wp2;(repeat (go_quiet (fail);try go_wp2));go_ret;exact ⟨by first|rfl|(simp [errW_none,errW_some]<;>rfl)|(simp [*,errW_none,errW_some]<;>rfl),by repeat (first|(with_reducible first|exact HI0.out|apply IsS89.alloc|apply IsS89.drewN|apply IsS89.drew|apply IsS89.set_1|apply IsS89.set_2)|exact HI0.out),by repeat (first|(with_reducible first|exact HB.out|apply below_alloc|apply pw_below_drewN|apply below_drew1|refine below_set ?_ (IsS89.ge HI0.out))|exact HB.out),by repeat (first|(with_reducible first|exact HK.out|apply KeepBut.set_|apply keep_drewN|apply keep_drew|apply keep_alloc)|exact HK.out)⟩
 ·rw [if_neg c2] at H;have c2b0:decide (s0_1<(s0_0.length:Int))=false:=decide_eq_false c2;clear c2;simp only [Option.some.injEq,Prod.mk.injEq] at H;obtain ⟨rfl,rfl,rfl⟩:=H;obtain ⟨ASz5_0,cSz5_0,HGz5,hgz5,HSz5_0⟩:=HI0.out;have hcz5_0:=cellS89_0 HGz5;have hcz5_1:=cellS89_1 HGz5;have hcz5_2:=cellS89_2 HGz5;have hfz5_1:=blk_frozen HGz5 1;have hfz5_2:=blk_frozen HGz5 2;clear HGz5 hgz5;go_enter Try.func98,Try.ntmps98;go_wp2;(repeat (go_quiet (fail);try go_wp2));go_ret;exact ⟨by first|rfl|(simp [errW_none,errW_some]<;>rfl)|(simp [*,errW_none,errW_some]<;>rfl),by repeat (first|(with_reducible first|exact HI0.out|apply IsS89.alloc|apply IsS89.drewN|apply IsS89.drew|apply IsS89.set_1|apply IsS89.set_2)|exact HI0.out),by repeat (first|(with_reducible first|exact HB.out|apply below_alloc|apply pw_below_drewN|apply below_drew1|refine below_set ?_ (IsS89.ge HI0.out))|exact HB.out),by repeat (first|(with_reducible first|exact HK.out|apply KeepBut.set_|apply keep_drewN|apply keep_drew|apply keep_alloc)|exact HK.out)⟩
def spec_l1Below.f (s0_0 : List Int) (s0_1 : Int) (s0_2 : Int) (a1 : Int) : Option (Int × Int × Int) := if a1 ≤ 0 then (some (0, s0_1, s0_2)) else (if a1 ≤ 256 then ((spec_l1Byte.f s0_0 s0_1 s0_2).bind fun bt293 => (if a1 = 0 then (none) else (some (Int.tmod bt293.1 a1, bt293.2.1, bt293.2.2)))) else ((spec_l1Byte.f s0_0 s0_1 s0_2).bind fun bt296 => ((spec_l1Byte.f s0_0 bt296.2.1 bt296.2.2).bind fun bt299 => ((spec_l1Byte.f s0_0 bt299.2.1 bt299.2.2).bind fun bt302 => (if a1 = 0 then (none) else (some (Int.tmod (wrap64 ((wrap64 ((wrap64 (bt296.1 * 65536)) + (wrap64 (bt299.1 * 256)))) + bt302.1)) a1, bt302.2.1, bt302.2.2)))))))
set_option maxHeartbeats 8000000 in
set_option maxRecDepth 100000 in
theorem spec_l1Below.calls (g : Nat) (s0_0 : List Int) (s0_1 : Int) (s0_2 : Int) (a1 : Int) (r1 : Int) (r2 : Int) (r3 : Int) (w0 w : World) (hI : IsS89 w0 w g s0_0 s0_1 s0_2) (hB : Below w0.heap.size w0 w) (h : spec_l1Below.f s0_0 s0_1 s0_2 a1 = some (r1, r2, r3)) :
 Calls Try.prog 63 #[.pointer (some ⟨g, 0, none⟩), .int .i64 a1] w fun e w' => e = .returned (.int .i64 r1) ∧ IsS89 w0 w' g s0_0 r2 r3 ∧ Below w0.heap.size w0 w' ∧ KeepBut w w' g none := by
 have HI0:=aM hI;have HK:=aM (KeepBut.refl w g none);have HL:=aM hB.size;clear hI;have HW0:=aM hB.size;have HB:=aM hB;clear hB;have H:(if a1≤0 then (some (0,s0_1,s0_2)) else (if a1≤256 then ((spec_l1Byte.f s0_0 s0_1 s0_2).bind fun bt293=>(if a1=0 then (none) else (some (Int.tmod bt293.1 a1,bt293.2.1,bt293.2.2)))) else ((spec_l1Byte.f s0_0 s0_1 s0_2).bind fun bt296=>((spec_l1Byte.f s0_0 bt296.2.1 bt296.2.2).bind fun bt299=>((spec_l1Byte.f s0_0 bt299.2.1 bt299.2.2).bind fun bt302=>(if a1=0 then (none) else (some (Int.tmod (wrap64 ((wrap64 ((wrap64 (bt296.1*65536))+(wrap64 (bt299.1*256))))+bt302.1)) a1,bt302.2.1,bt302.2.2))))))))=some (r1,r2,r3):=h;clear h;by_cases c3:a1≤0
 ·rw [if_pos c3] at H;have c3b0:decide (a1≤0)=true:=decide_eq_true c3;clear c3;simp only [Option.some.injEq,Prod.mk.injEq] at H;obtain ⟨rfl,rfl,rfl⟩:=H;go_enter Try.func63,Try.ntmps63;go_wp2;go_ret;exact ⟨by first|rfl|(simp [errW_none,errW_some]<;>rfl)|(simp [*,errW_none,errW_some]<;>rfl),by repeat (first|(with_reducible first|exact HI0.out|apply IsS89.alloc|apply IsS89.drewN|apply IsS89.drew|apply IsS89.set_1|apply IsS89.set_2)|exact HI0.out),by repeat (first|(with_reducible first|exact HB.out|apply below_alloc|apply pw_below_drewN|apply below_drew1|refine below_set ?_ (IsS89.ge HI0.out))|exact HB.out),by repeat (first|(with_reducible first|exact HK.out|apply KeepBut.set_|apply keep_drewN|apply keep_drew|apply keep_alloc)|exact HK.out)⟩
 ·rw [if_neg c3] at H;have c3b0:decide (a1≤0)=false:=decide_eq_false c3;clear c3;by_cases c4:a1≤256
  ·rw [if_pos c4] at H;have c4b0:decide (a1≤256)=true:=decide_eq_true c4;clear c4;obtain ⟨⟨t293,t294,t295⟩,A5,H⟩:=bz H;dsimp only at H;by_cases c6:a1=0
   ·rw [if_pos c6] at H;exact absurd H (by simp)
   ·rw [if_neg c6] at H;have c6b0:(a1 == 0)=false:=beq_eq_false_iff_ne.mpr c6;have c6b1:(a1 != 0)=true:=bne_iff_ne.mpr c6;simp only [Option.some.injEq,Prod.mk.injEq] at H;obtain ⟨rfl,rfl,rfl⟩:=H;go_enter Try.func63,Try.ntmps63;go_wp2_with (first|((with_reducible refine gate_callee (f:=98) rfl ?_);refine gm (some 13) Try.func98 #[.pointer (some ⟨g,0,none⟩)] ?_;(with_reducible refine (spec_l1Byte.calls g s0_0 s0_1 s0_2 t293 t294 t295 w0 _ ?side1 ?side2 A5.out).mono ?_);(case side1=>repeat (first|(with_reducible first|exact HI0.out|apply IsS89.alloc|apply IsS89.drewN|apply IsS89.drew|apply IsS89.set_1|apply IsS89.set_2)|exact HI0.out));(case side2=>repeat (first|(with_reducible first|exact HB.out|apply below_alloc|apply pw_below_drewN|apply below_drew1|refine below_set ?_ (IsS89.ge HI0.out))|exact HB.out));rintro e w7 ⟨rfl,hi,hb,hk⟩;refine ⟨_,rfl,?_⟩;replace HK:=aM (KeepBut.trans (by repeat (first|(with_reducible first|exact HK.out|apply KeepBut.set_|apply keep_drewN|apply keep_drew|apply keep_alloc)|exact HK.out)) hk (.inl rfl));replace HB:=aM (hb);replace HI0:=aM (hi);(try clear hb);(try clear hb2);(try clear hk);(try clear hi)));go_ret;exact ⟨by first|rfl|(simp [errW_none,errW_some]<;>rfl)|(simp [*,errW_none,errW_some]<;>rfl),by repeat (first|(with_reducible first|exact HI0.out|apply IsS89.alloc|apply IsS89.drewN|apply IsS89.drew|apply IsS89.set_1|apply IsS89.set_2)|exact HI0.out),by repeat (first|(with_reducible first|exact HB.out|apply below_alloc|apply pw_below_drewN|apply below_drew1|refine below_set ?_ (IsS89.ge HI0.out))|exact HB.out),by repeat (first|(with_reducible first|exact HK.out|apply KeepBut.set_|apply keep_drewN|apply keep_drew|apply keep_alloc)|exact HK.out)⟩
  ·rw [if_neg c4] at H;have c4b0:decide (a1≤256)=false:=decide_eq_false c4;clear c4;obtain ⟨⟨t296,t297,t298⟩,A8,H⟩:=bz H;dsimp only at H;obtain ⟨⟨t299,t300,t301⟩,A9,H⟩:=bz H;dsimp only at H;obtain ⟨⟨t302,t303,t304⟩,A10,H⟩:=bz H;dsimp only at H;by_cases c11:a1=0
   ·rw [if_pos c11] at H;exact absurd H (by simp)
   ·rw [if_neg c11] at H;have c11b0:(a1 == 0)=false:=beq_eq_false_iff_ne.mpr c11;have c11b1:(a1 != 0)=true:=bne_iff_ne.mpr c11;simp only [Option.some.injEq,Prod.mk.injEq] at H;obtain ⟨rfl,rfl,rfl⟩:=H;go_enter Try.func63,Try.ntmps63;go_wp2_with (first|((with_reducible refine gate_callee (f:=98) rfl ?_);refine gm (some 17) Try.func98 #[.pointer (some ⟨g,0,none⟩)] ?_;(with_reducible refine (spec_l1Byte.calls g s0_0 s0_1 s0_2 t296 t297 t298 w0 _ ?side1 ?side2 A8.out).mono ?_);(case side1=>repeat (first|(with_reducible first|exact HI0.out|apply IsS89.alloc|apply IsS89.drewN|apply IsS89.drew|apply IsS89.set_1|apply IsS89.set_2)|exact HI0.out));(case side2=>repeat (first|(with_reducible first|exact HB.out|apply below_alloc|apply pw_below_drewN|apply below_drew1|refine below_set ?_ (IsS89.ge HI0.out))|exact HB.out));rintro e w12 ⟨rfl,hi,hb,hk⟩;refine ⟨_,rfl,?_⟩;replace HK:=aM (KeepBut.trans (by repeat (first|(with_reducible first|exact HK.out|apply KeepBut.set_|apply keep_drewN|apply keep_drew|apply keep_alloc)|exact HK.out)) hk (.inl rfl));replace HB:=aM (hb);replace HI0:=aM (hi);(try clear hb);(try clear hb2);(try clear hk);(try clear hi))|((with_reducible refine gate_callee (f:=98) rfl ?_);refine gm (some 19) Try.func98 #[.pointer (some ⟨g,0,none⟩)] ?_;(with_reducible refine (spec_l1Byte.calls g s0_0 t297 t298 t299 t300 t301 w0 _ ?side1 ?side2 A9.out).mono ?_);(case side1=>repeat (first|(with_reducible first|exact HI0.out|apply IsS89.alloc|apply IsS89.drewN|apply IsS89.drew|apply IsS89.set_1|apply IsS89.set_2)|exact HI0.out));(case side2=>repeat (first|(with_reducible first|exact HB.out|apply below_alloc|apply pw_below_drewN|apply below_drew1|refine below_set ?_ (IsS89.ge HI0.out))|exact HB.out));rintro e w13 ⟨rfl,hi,hb,hk⟩;refine ⟨_,rfl,?_⟩;replace HK:=aM (KeepBut.trans (by repeat (first|(with_reducible first|exact HK.out|apply KeepBut.set_|apply keep_drewN|apply keep_drew|apply keep_alloc)|exact HK.out)) hk (.inl rfl));replace HB:=aM (hb);replace HI0:=aM (hi);(try clear hb);(try clear hb2);(try clear hk);(try clear hi))|((with_reducible refine gate_callee (f:=98) rfl ?_);refine gm (some 21) Try.func98 #[.pointer (some ⟨g,0,none⟩)] ?_;(with_reducible refine (spec_l1Byte.calls g s0_0 t300 t301 t302 t303 t304 w0 _ ?side1 ?side2 A10.out).mono ?_);(case side1=>repeat (first|(with_reducible first|exact HI0.out|apply IsS89.alloc|apply IsS89.drewN|apply IsS89.drew|apply IsS89.set_1|apply IsS89.set_2)|exact HI0.out));(case side2=>repeat (first|(with_reducible first|exact HB.out|apply below_alloc|apply pw_below_drewN|apply below_drew1|refine below_set ?_ (IsS89.ge HI0.out))|exact HB.out));rintro e w14 ⟨rfl,hi,hb,hk⟩;refine ⟨_,rfl,?_⟩;replace HK:=aM (KeepBut.trans (by repeat (first|(with_reducible first|exact HK.out|apply KeepBut.set_|apply keep_drewN|apply keep_drew|apply keep_alloc)|exact HK.out)) hk (.inl rfl));replace HB:=aM (hb);replace HI0:=aM (hi);(try clear hb);(try clear hb2);(try clear hk);(try clear hi)));go_ret;exact ⟨by first|rfl|(simp [errW_none,errW_some]<;>rfl)|(simp [*,errW_none,errW_some]<;>rfl),by repeat (first|(with_reducible first|exact HI0.out|apply IsS89.alloc|apply IsS89.drewN|apply IsS89.drew|apply IsS89.set_1|apply IsS89.set_2)|exact HI0.out),by repeat (first|(with_reducible first|exact HB.out|apply below_alloc|apply pw_below_drewN|apply below_drew1|refine below_set ?_ (IsS89.ge HI0.out))|exact HB.out),by repeat (first|(with_reducible first|exact HK.out|apply KeepBut.set_|apply keep_drewN|apply keep_drew|apply keep_alloc)|exact HK.out)⟩
def spec_l1Once.f (s0_0 : List Int) (s0_1 : Int) (s0_2 : Int) (a1 : Int) : Option (Bool × Int × Int) := (spec_l1Below.f s0_0 s0_1 s0_2 a1).bind fun bt305 => (some ((bt305.1 == 0), bt305.2.1, bt305.2.2))
set_option maxHeartbeats 8000000 in
set_option maxRecDepth 100000 in
theorem spec_l1Once.calls (g : Nat) (s0_0 : List Int) (s0_1 : Int) (s0_2 : Int) (a1 : Int) (r1 : Bool) (r2 : Int) (r3 : Int) (w0 w : World) (hI : IsS89 w0 w g s0_0 s0_1 s0_2) (hB : Below w0.heap.size w0 w) (h : spec_l1Once.f s0_0 s0_1 s0_2 a1 = some (r1, r2, r3)) :
 Calls Try.prog 66 #[.pointer (some ⟨g, 0, none⟩), .int .i64 a1] w fun e w' => e = .returned (.bool r1) ∧ IsS89 w0 w' g s0_0 r2 r3 ∧ Below w0.heap.size w0 w' ∧ KeepBut w w' g none := by
 have HI0:=aM hI;have HK:=aM (KeepBut.refl w g none);have HL:=aM hB.size;clear hI;have HW0:=aM hB.size;have HB:=aM hB;clear hB;have H:((spec_l1Below.f s0_0 s0_1 s0_2 a1).bind fun bt305=>(some ((bt305.1 == 0),bt305.2.1,bt305.2.2)))=some (r1,r2,r3):=h;clear h;obtain ⟨⟨t305,t306,t307⟩,A3,H⟩:=bz H;dsimp only at H;simp only [Option.some.injEq,Prod.mk.injEq] at H;obtain ⟨rfl,rfl,rfl⟩:=H;go_enter Try.func66,Try.ntmps66;go_wp2_with (first|((with_reducible refine gate_callee (f:=63) rfl ?_);refine gm (some 7) Try.func63 #[.pointer (some ⟨g,0,none⟩),.int .i64 a1] ?_;(with_reducible refine (spec_l1Below.calls g s0_0 s0_1 s0_2 a1 t305 t306 t307 w0 _ ?side1 ?side2 A3.out).mono ?_);(case side1=>repeat (first|(with_reducible first|exact HI0.out|apply IsS89.alloc|apply IsS89.drewN|apply IsS89.drew|apply IsS89.set_1|apply IsS89.set_2)|exact HI0.out));(case side2=>repeat (first|(with_reducible first|exact HB.out|apply below_alloc|apply pw_below_drewN|apply below_drew1|refine below_set ?_ (IsS89.ge HI0.out))|exact HB.out));rintro e w4 ⟨rfl,hi,hb,hk⟩;refine ⟨_,rfl,?_⟩;replace HK:=aM (KeepBut.trans (by repeat (first|(with_reducible first|exact HK.out|apply KeepBut.set_|apply keep_drewN|apply keep_drew|apply keep_alloc)|exact HK.out)) hk (.inl rfl));replace HB:=aM (hb);replace HI0:=aM (hi);(try clear hb);(try clear hb2);(try clear hk);(try clear hi)));go_ret;exact ⟨by first|rfl|(simp [errW_none,errW_some]<;>rfl)|(simp [*,errW_none,errW_some]<;>rfl),by repeat (first|(with_reducible first|exact HI0.out|apply IsS89.alloc|apply IsS89.drewN|apply IsS89.drew|apply IsS89.set_1|apply IsS89.set_2)|exact HI0.out),by repeat (first|(with_reducible first|exact HB.out|apply below_alloc|apply pw_below_drewN|apply below_drew1|refine below_set ?_ (IsS89.ge HI0.out))|exact HB.out),by repeat (first|(with_reducible first|exact HK.out|apply KeepBut.set_|apply keep_drewN|apply keep_drew|apply keep_alloc)|exact HK.out)⟩
def spec_l1Int.f (s0_0 : List Int) (s0_1 : Int) (s0_2 : Int) (l1 : List Int) : Option (Int × Int × Int) := (spec_l1Below.f s0_0 s0_1 s0_2 (l1.length : Int)).bind fun bt308 => (if 0 ≤ bt308.1 then (if bt308.1 < (l1.length : Int) then (some (rd l1 bt308.1, bt308.2.1, bt308.2.2)) else (none)) else (none))
set_option maxHeartbeats 8000000 in
set_option maxRecDepth 100000 in
theorem spec_l1Int.calls (g : Nat) (s0_0 : List Int) (s0_1 : Int) (s0_2 : Int) (A1 : Option Addr) (c1 : Nat) (l1 : List Int) (r1 : Int) (r2 : Int) (r3 : Int) (w0 w : World) (hI : IsS89 w0 w g s0_0 s0_1 s0_2) (hB : Below w0.heap.size w0 w) (hr1 : Kd.C (Kd.int .i64) w A1 l1.length l1) (hc1 : l1.length ≤ c1) (hf1 : ∀ ad, A1 = some ad → 0 < l1.length → ad.block ≠ g) (h : spec_l1Int.f s0_0 s0_1 s0_2 l1 = some (r1, r2, r3)) :
 Calls Try.prog 101 #[.pointer (some ⟨g, 0, none⟩), .slice A1 l1.length c1] w fun e w' => e = .returned (.int .i64 r1) ∧ IsS89 w0 w' g s0_0 r2 r3 ∧ Below w0.heap.size w0 w' ∧ KeepBut w w' g none := by
 have HR1:=aM hr1;have HC1:=aM hc1;clear hr1 hc1;have HI0:=aM hI;have HK:=aM (KeepBut.refl w g none);have HL:=aM hB.size;clear hI;have HW0:=aM hB.size;have HB:=aM hB;clear hB;have H:((spec_l1Below.f s0_0 s0_1 s0_2 (l1.length:Int)).bind fun bt308=>(if 0≤bt308.1 then (if bt308.1<(l1.length:Int) then (some (rd l1 bt308.1,bt308.2.1,bt308.2.2)) else (none)) else (none)))=some (r1,r2,r3):=h;clear h;obtain ⟨⟨t308,t309,t310⟩,A3,H⟩:=bz H;dsimp only at H;obtain ⟨c4b0,H⟩:=iN H;obtain ⟨c5b0,H⟩:=iN H;simp only [Option.some.injEq,Prod.mk.injEq] at H;obtain ⟨rfl,rfl,rfl⟩:=H;go_enter Try.func101,Try.ntmps101;go_wp2_with (first|((with_reducible refine gate_callee (f:=63) rfl ?_);refine gm (some 9) Try.func63 #[.pointer (some ⟨g,0,none⟩),.int .i64 (l1.length:Int)] ?_;(with_reducible refine (spec_l1Below.calls g s0_0 s0_1 s0_2 (l1.length:Int) t308 t309 t310 w0 _ ?side1 ?side2 A3.out).mono ?_);(case side1=>repeat (first|(with_reducible first|exact HI0.out|apply IsS89.alloc|apply IsS89.drewN|apply IsS89.drew|apply IsS89.set_1|apply IsS89.set_2)|exact HI0.out));(case side2=>repeat (first|(with_reducible first|exact HB.out|apply below_alloc|apply pw_below_drewN|apply below_drew1|refine below_set ?_ (IsS89.ge HI0.out))|exact HB.out));rintro e w6 ⟨rfl,hi,hb,hk⟩;refine ⟨_,rfl,?_⟩;replace HK:=aM (KeepBut.trans (by repeat (first|(with_reducible first|exact HK.out|apply KeepBut.set_|apply keep_drewN|apply keep_drew|apply keep_alloc)|exact HK.out)) hk (.inl rfl));replace HB:=aM (hb);replace HI0:=aM (hi);(try clear hb);(try clear hb2);(try clear hk);(try clear hi);have p311:0≤(t308:Int):=zd;have q311:t308<(l1.length:Int):=zd;obtain ⟨ad311,e311,hx311_0⟩:=Kd.at_int HR1.out t308 p311 q311;cases e311;replace hx311_0:=keep_cell HK.out hx311_0 (by first|(rw [add_block];exact hf1 _ rfl (by omega))|exact hf1 _ rfl (by omega)|exact hf1 ad311 rfl (by omega));replace p311:=eq_true p311;replace q311:=eq_true q311));go_ret;exact ⟨by first|rfl|(simp [errW_none,errW_some]<;>rfl)|(simp [*,errW_none,errW_some]<;>rfl),by repeat (first|(with_reducible first|exact HI0.out|apply IsS89.alloc|apply IsS89.drewN|apply IsS89.drew|apply IsS89.set_1|apply IsS89.set_2)|exact HI0.out),by repeat (first|(with_reducible first|exact HB.out|apply below_alloc|apply pw_below_drewN|apply below_drew1|refine below_set ?_ (IsS89.ge HI0.out))|exact HB.out),by repeat (first|(with_reducible first|exact HK.out|apply KeepBut.set_|apply keep_drewN|apply keep_drew|apply keep_alloc)|exact HK.out)⟩
end Go.Proofs.Ytojkepidkmkmpaa.PFnSpan
end
section
namespace Go.Proofs.Ytojkepidkmkmpaa.PFnSpan
open Go.Proofs.YtojkepidkmkmpaaW.PrintWords.Aside0 renaming mk → aM
open List renaming setIfInBounds_toArray → qa, set_cons_zero → qz, set_cons_succ → qs
open Bool renaming true → tt, false → ff
open Option renaming bind_eq_some_iff → bE

open Go.RowKit Go.Proofs.YtojkepidkmkmpaaW.PrintWords Go.Proofs.YtojkepidkmkmpaaW.PrintLast Go.Proofs.YtojkepidkmkmpaaW.PrintMore
attribute [local go_sem] max2_int min2_int max_two min_two max_three min_three max_four min_four
set_option linter.unusedVariables false
set_option linter.unusedSimpArgs false
def spec_l5Row.l0 : Nat → Int → List Int → Int → List Int → Int → Int → Option (List Int × Int × Int)
 | 0, _, _, _, _, _, _ => none
 | k + 1, x1, x5, x6, x1000, x1001, x1002 => if x6 < x1 then ((spec_l1Int.f x1000 x1001 x1002 (([0, 0, 1, 1, 1, (-1), 2, (-2)] : List Int))).bind fun bt318 => (if x5.length < 17592186044416 then (spec_l5Row.l0 k x1 (x5 ++ [bt318.1]) (wrap64 (x6 + 1)) x1000 bt318.2.1 bt318.2.2) else (none))) else (some (x5, x1001, x1002))
def spec_l5Row.f (k : Nat) (s0_0 : List Int) (s0_1 : Int) (s0_2 : Int) (a1 : Int) : Option (List Int × Int × Int) := spec_l5Row.l0 k a1 (([] : List Int)) 0 s0_0 s0_1 s0_2
set_option maxHeartbeats 8000000 in
set_option maxRecDepth 100000 in
theorem spec_l5Row.calls (k : Nat) (g : Nat) (s0_0 : List Int) (s0_1 : Int) (s0_2 : Int) (a1 : Int) (r1 : List Int) (r2 : Int) (r3 : Int) (w0 w : World) (hI : IsS89 w0 w g s0_0 s0_1 s0_2) (hB : Below w0.heap.size w0 w) (h : spec_l5Row.f k s0_0 s0_1 s0_2 a1 = some (r1, r2, r3)) :
 Calls Try.prog 67 #[.pointer (some ⟨g, 0, none⟩), .int .i64 a1] w fun e w' => ∃ v0_ : Value, e = .returned (v0_) ∧ Kd.R (Kd.int .i64) 3 w' w.heap.size (fun _ => True) v0_ r1 ∧ IsS89 w0 w' g s0_0 r2 r3 ∧ Below w0.heap.size w0 w' ∧ KeepBut w w' g none := by
 have HI0:=aM hI;have HK:=aM (KeepBut.refl w g none);have HL:=aM hB.size;clear hI;have HW0:=aM hB.size;have HB:=aM hB;clear hB;have H:(spec_l5Row.l0 k a1 (([]:List Int)) 0 s0_0 s0_1 s0_2)=some (r1,r2,r3):=h;clear h;obtain ⟨y312,hy312⟩:∃y_:List Int,y_=(([]:List Int)):=⟨_,rfl⟩;replace H:(spec_l5Row.l0 k a1 y312 0 s0_0 s0_1 s0_2)=some (r1,r2,r3):=(by first|(rw [hy312];with_reducible exact H)|(have H2_:=(Option.bind_some _ _).symm.trans H;rw [hy312];with_reducible exact H2_)|(have H2_:=(Option.bind_some _ _).symm.trans H;with_reducible exact H2_)|with_reducible exact H|(rw [hy312];exact H)|exact H);have Ny312:=aM hy312;clear hy312;have H':=aM H;clear H;go_enter Try.func67,Try.ntmps67;go_wp2_with (first|((with_reducible refine gate_dst (N:=7) rfl ?_);refine Kd.R_lit (Kd.int .i64) _ 3 ?hg (N:=7) ?hd (xs:=([]:List Int)) (inner:=[]) (ok:=fun _=>True) (okp:=fun _=>True) ?hr ?hp (fun _ hk=>hk) trivial (Below.refl _ _) (Nat.le_refl _) (by simp) ?_;(case hd=>rfl);(case hg=>rfl);(case hr=>first|(go_simp;done)|(go_simp;rfl));(case hp=>exact (Reps.none _ _));intro v313 w3 ho4 hb hg_ hnew_;clear hg_ hnew_;(first|rw [← Ny312.out] at ho4|(simp only [Int.reduceToNat] at ho4;rw [← Ny312.out] at ho4));have HO314:=aM (Kd.R_lower ho4 (keep_size (w:=w) (g:=g) (row:=none) (by repeat (first|(with_reducible first|exact HK.out|apply KeepBut.set_|apply keep_drewN|apply keep_drew|apply keep_alloc)|exact HK.out))));replace HK:=aM (KeepBut.trans (by repeat (first|(with_reducible first|exact HK.out|apply KeepBut.set_|apply keep_drewN|apply keep_drew|apply keep_alloc)|exact HK.out)) (KeepBut.of_below hb g none) (.inl rfl));replace HB:=aM (below_step (by repeat (first|(with_reducible first|exact HB.out|apply below_alloc|apply pw_below_drewN|apply below_drew1|refine below_set ?_ (IsS89.ge HI0.out))|exact HB.out)) hb);replace HI0:=aM (IsS89.below (by repeat (first|(with_reducible first|exact HI0.out|apply IsS89.alloc|apply IsS89.drewN|apply IsS89.drew|apply IsS89.set_1|apply IsS89.set_2)|exact HI0.out)) hb);clear hb ho4));go_loopg [5,6] k (fun kq v5 v6 w'=>∃(x5_1:List Int) (x6_1:Int) (x1001_1:Int) (x1002_1:Int),v6 = .int .i64 x6_1∧Aside0 (spec_l5Row.l0 kq a1 x5_1 x6_1 s0_0 x1001_1 x1002_1=some (r1,r2,r3))∧Aside0 (kq≤k)∧Aside0 (Kd.R (Kd.int .i64) 3 w' w.heap.size (fun _=>True) v5 x5_1)∧Aside0 (IsS89 w0 w' g s0_0 x1001_1 x1002_1)∧Aside0 (KeepBut w w' g none)∧Aside0 (Below w0.heap.size w0 w'));(case atStart=>exact ⟨(y312),(0),(s0_1),(s0_2),zt,H',⟨Nat.le_refl _⟩,⟨zr HO314.out⟩,⟨by repeat (first|(with_reducible first|exact HI0.out|apply IsS89.alloc|apply IsS89.drewN|apply IsS89.drew|apply IsS89.set_1|apply IsS89.set_2)|exact HI0.out)⟩,⟨by repeat (first|(with_reducible first|exact HK.out|apply KeepBut.set_|apply keep_drewN|apply keep_drew|apply keep_alloc)|exact HK.out)⟩,⟨by repeat (first|(with_reducible first|exact HB.out|apply below_alloc|apply pw_below_drewN|apply below_drew1|refine below_set ?_ (IsS89.ge HI0.out))|exact HB.out)⟩⟩)
 case round=>
  clear H';(try clear p2);obtain ⟨x5_1,x6_1,x1001_1,x1002_1,rfl,HA,HK1,HO_5,HI0,HK,HB⟩:=hrel;cases gk with
  | zero=>exact absurd HA.out (by simp [spec_l5Row.l0])
  | succ k1=>
   have H:=HA.out;clear HA;simp only [spec_l5Row.l0] at H;by_cases c5:x6_1<a1
   ·rw [if_pos c5] at H;have c5b0:decide (x6_1<a1)=true:=decide_eq_true c5;clear c5;obtain ⟨y315,hy315⟩:∃y_:List Int,y_=(([0,0,1,1,1,(-1),2,(-2)]:List Int)):=⟨_,rfl⟩;replace H:((spec_l1Int.f s0_0 x1001_1 x1002_1 y315).bind fun bt318=>(if x5_1.length<17592186044416 then (spec_l5Row.l0 k1 a1 (x5_1 ++ [bt318.1]) (wrap64 (x6_1+1)) s0_0 bt318.2.1 bt318.2.2) else (none)))=some (r1,r2,r3):=(by first|(rw [hy315];with_reducible exact H)|(have H2_:=(Option.bind_some _ _).symm.trans H;rw [hy315];with_reducible exact H2_)|(have H2_:=(Option.bind_some _ _).symm.trans H;with_reducible exact H2_)|with_reducible exact H|(rw [hy315];exact H)|exact H);have Ny315:=aM hy315;clear hy315;obtain ⟨⟨t318,t319,t320⟩,A6,H⟩:=bz H;dsimp only at H;by_cases c7:x5_1.length<17592186044416
    ·rw [if_pos c7] at H;have LMc7:=aM c7;clear c7;obtain ⟨y321,hy321⟩:∃y_:List Int,y_=(x5_1 ++ [t318]):=⟨_,rfl⟩;replace H:(spec_l5Row.l0 k1 a1 y321 (wrap64 (x6_1+1)) s0_0 t319 t320)=some (r1,r2,r3):=(by first|(rw [hy321];with_reducible exact H)|(have H2_:=(Option.bind_some _ _).symm.trans H;rw [hy321];with_reducible exact H2_)|(have H2_:=(Option.bind_some _ _).symm.trans H;with_reducible exact H2_)|with_reducible exact H|(rw [hy321];exact H)|exact H);have Ny321:=aM hy321;clear hy321;have H':=aM H;clear H;go_wp2_with (first|((with_reducible refine gate_dst (N:=15) rfl ?_);refine Kd.R_lit (Kd.int .i64) _ 3 ?hg (N:=15) ?hd (xs:=([0,0,1,1,1,(-1),2,(-2)]:List Int)) (inner:=[.int .i64 0,.int .i64 0,.int .i64 1,.int .i64 1,.int .i64 1,.int .i64 (-1),.int .i64 2,.int .i64 (-2)]) (ok:=fun _=>True) (okp:=fun _=>True) ?hr ?hp (fun _ hk=>hk) trivial (Below.refl _ _) (Nat.le_refl _) (by simp) ?_;(case hd=>rfl);(case hg=>rfl);(case hr=>first|(go_simp;done)|(go_simp;rfl));(case hp=>exact (Reps.one (show Kd.M (Kd.int .i64) _ _ _ 0 [.int .i64 0] from rfl) (Reps.one (show Kd.M (Kd.int .i64) _ _ _ 0 [.int .i64 0] from rfl) (Reps.one (show Kd.M (Kd.int .i64) _ _ _ 1 [.int .i64 1] from rfl) (Reps.one (show Kd.M (Kd.int .i64) _ _ _ 1 [.int .i64 1] from rfl) (Reps.one (show Kd.M (Kd.int .i64) _ _ _ 1 [.int .i64 1] from rfl) (Reps.one (show Kd.M (Kd.int .i64) _ _ _ (-1) [.int .i64 (-1)] from rfl) (Reps.one (show Kd.M (Kd.int .i64) _ _ _ 2 [.int .i64 2] from rfl) (Reps.one (show Kd.M (Kd.int .i64) _ _ _ (-2) [.int .i64 (-2)] from rfl) (Reps.none _ _))))))))));intro v316 w8 ho9 hb hg_ hnew_;clear hg_ hnew_;(first|rw [← Ny315.out] at ho9|(simp only [Int.reduceToNat] at ho9;rw [← Ny315.out] at ho9));have HO317:=aM (Kd.R_lower (Kd.R_new' ho9 (Kd.R_lt (zr HO_5.out))) (keep_size (w:=w) (g:=g) (row:=none) (by repeat (first|(with_reducible first|exact HK.out|apply KeepBut.set_|apply keep_drewN|apply keep_drew|apply keep_alloc)|exact HK.out))));replace HO_5:=aM (Kd.R_elder' (zr HO_5.out) (Kd.R_base ho9) hb);replace HK:=aM (KeepBut.trans (by repeat (first|(with_reducible first|exact HK.out|apply KeepBut.set_|apply keep_drewN|apply keep_drew|apply keep_alloc)|exact HK.out)) (KeepBut.of_below hb g none) (.inl rfl));replace HB:=aM (below_step (by repeat (first|(with_reducible first|exact HB.out|apply below_alloc|apply pw_below_drewN|apply below_drew1|refine below_set ?_ (IsS89.ge HI0.out))|exact HB.out)) hb);replace HI0:=aM (IsS89.below (by repeat (first|(with_reducible first|exact HI0.out|apply IsS89.alloc|apply IsS89.drewN|apply IsS89.drew|apply IsS89.set_1|apply IsS89.set_2)|exact HI0.out)) hb);clear hb ho9;obtain ⟨Ao10,co10,eo10⟩:=Kd.R_slice HO317.out;subst eo10)|((with_reducible refine gate_callee (f:=101) rfl ?_);refine gm (some 16) Try.func101 #[.pointer (some ⟨g,0,none⟩),.slice Ao10 y315.length co10] ?_;(with_reducible refine (spec_l1Int.calls g s0_0 x1001_1 x1002_1 _ _ y315 t318 t319 t320 w0 _ ?side1 ?side2 ?side3 ?side4 ?side5 A6.out).mono ?_);(case side1=>repeat (first|(with_reducible first|exact HI0.out|apply IsS89.alloc|apply IsS89.drewN|apply IsS89.drew|apply IsS89.set_1|apply IsS89.set_2)|exact HI0.out));(case side2=>repeat (first|(with_reducible first|exact HB.out|apply below_alloc|apply pw_below_drewN|apply below_drew1|refine below_set ?_ (IsS89.ge HI0.out))|exact HB.out));(case side3=>exact zc (Kd.R_reads' HO317.out).2.2);(case side4=>exact (Kd.R_reads' HO317.out).2.1);(case side5=>exact far_slice (IsS89.own_ne HI0.out HO317.out (by decide)));rintro e w11 ⟨rfl,hi,hb,hk⟩;refine ⟨_,rfl,?_⟩;replace HO_5:=aM (Kd.R_mono (Kd.R_keep (IsS89.apart (show IsS89 w0 _ g s0_0 x1001_1 x1002_1 from by repeat (first|(with_reducible first|exact HI0.out|apply IsS89.alloc|apply IsS89.drewN|apply IsS89.drew|apply IsS89.set_1|apply IsS89.set_2)|exact HI0.out)) (zr HO_5.out) (by decide)) hk (fun _ h=>h.2)) (fun _ h=>h.1));replace HO317:=aM (Kd.R_mono (Kd.R_keep (IsS89.apart (show IsS89 w0 _ g s0_0 x1001_1 x1002_1 from by repeat (first|(with_reducible first|exact HI0.out|apply IsS89.alloc|apply IsS89.drewN|apply IsS89.drew|apply IsS89.set_1|apply IsS89.set_2)|exact HI0.out)) (zr HO317.out) (by decide)) hk (fun _ h=>h.2)) (fun _ h=>h.1));replace HK:=aM (KeepBut.trans (by repeat (first|(with_reducible first|exact HK.out|apply KeepBut.set_|apply keep_drewN|apply keep_drew|apply keep_alloc)|exact HK.out)) hk (.inl rfl));replace HB:=aM (hb);replace HI0:=aM (hi);(try clear hb);(try clear hb2);(try clear hk);(try clear hi))|((with_reducible refine gate_builtin (b:=.append) (xs:=#[.tmp 13,.tmp 17]) rfl ?_);at_builtin;refine Kd.R_append (Kd.int .i64) w.heap.size rfl (.tmp 13) (.tmp 17) 23 3 (.int .i64 0) 8 rfl Try.underlying23 info3 rfl (by decide) (by omega) u5 x5_1 t318 [.int .i64 t318] (fun k_=>some k_≠(.slice Ao10 y315.length co10:Value).ownBlock) (fun _=>False) rfl rfl ?aP (fun _ hk=>hk.elim) ?aF ?aO (Below.refl _ _) ?aS ?aL ?_;(case aP=>exact rfl);(case aF=>exact (fun k_ hk=>Kd.fresh' (Kd.R_lt (zr HO317.out)) k_ hk));(case aO=>exact (by (with_reducible repeat (first|apply Kd.R_alloc|apply Kd.R_drewN|apply Kd.R_drew));exact Kd.R_mono HO_5.out (fun _ hk=>hk.2)));(case aS=>exact (keep_size (w:=w) (g:=g) (row:=none) (by repeat (first|(with_reducible first|exact HK.out|apply KeepBut.set_|apply keep_drewN|apply keep_drew|apply keep_alloc)|exact HK.out))));(case aL=>have:=LMc7.out;omega);intro v322 w12 ho hb hg hat;rw [← Ny321.out] at ho;replace HO317:=aM (Kd.R_after (ok:=(fun _=>True)) (zr HO317.out) hg hat);replace HB:=aM (below_weaken (by repeat (first|(with_reducible first|exact HB.out|apply below_alloc|apply pw_below_drewN|apply below_drew1|refine below_set ?_ (IsS89.ge HI0.out))|exact HB.out)) HL.out hb);replace HI0:=aM (IsS89.grown (by repeat (first|(with_reducible first|exact HI0.out|apply IsS89.alloc|apply IsS89.drewN|apply IsS89.drew|apply IsS89.set_1|apply IsS89.set_2)|exact HI0.out)) hg (IsS89.own_ne HI0.out HO_5.out (by decide)));replace HK:=aM (KeepBut.trans (by repeat (first|(with_reducible first|exact HK.out|apply KeepBut.set_|apply keep_drewN|apply keep_drew|apply keep_alloc)|exact HK.out)) (KeepBut.of_grown hg g) (Kd.R_base2 HO_5.out));have HO323:=aM (ho);clear HO_5 ho hb hg hat));go_roundg k1;(case measure=>have:=HK1.out;omega);(case rel=>exact ⟨(y321),(wrap64 (x6_1+1)),(t319),(t320),zt,H',⟨by have:=HK1.out;omega⟩,⟨by (with_reducible repeat (first|apply Kd.R_alloc|apply Kd.R_drewN|apply Kd.R_drew));exact Kd.R_mono HO323.out (fun _ hk=>trivial)⟩,⟨by repeat (first|(with_reducible first|exact HI0.out|apply IsS89.alloc|apply IsS89.drewN|apply IsS89.drew|apply IsS89.set_1|apply IsS89.set_2)|exact HI0.out)⟩,⟨by repeat (first|(with_reducible first|exact HK.out|apply KeepBut.set_|apply keep_drewN|apply keep_drew|apply keep_alloc)|exact HK.out)⟩,⟨by repeat (first|(with_reducible first|exact HB.out|apply below_alloc|apply pw_below_drewN|apply below_drew1|refine below_set ?_ (IsS89.ge HI0.out))|exact HB.out)⟩⟩)
    ·rw [if_neg c7] at H;exact absurd H (by simp)
   ·rw [if_neg c5] at H;have c5b0:decide (x6_1<a1)=false:=decide_eq_false c5;clear c5;simp only [Option.some.injEq,Prod.mk.injEq] at H;obtain ⟨rfl,rfl,rfl⟩:=H;go_wp2;go_ret;exact ⟨_,by first|rfl|(simp [errW_none,errW_some]<;>rfl)|(simp [*,errW_none,errW_some]<;>rfl),zr HO_5.out,by repeat (first|(with_reducible first|exact HI0.out|apply IsS89.alloc|apply IsS89.drewN|apply IsS89.drew|apply IsS89.set_1|apply IsS89.set_2)|exact HI0.out),by repeat (first|(with_reducible first|exact HB.out|apply below_alloc|apply pw_below_drewN|apply below_drew1|refine below_set ?_ (IsS89.ge HI0.out))|exact HB.out),by repeat (first|(with_reducible first|exact HK.out|apply KeepBut.set_|apply keep_drewN|apply keep_drew|apply keep_alloc)|exact HK.out)⟩
def spec_l5Draw.l0 : Nat → Int → List (List Int) → Int → List Int → Int → Int → Option ((List (List Int)) × Int × Int)
 | 0, _, _, _, _, _, _ => none
 | k + 1, x1, x5, x6, x1000, x1001, x1002 => if x6 > 0 then ((spec_l5Row.f k x1000 x1001 x1002 x1).bind fun bt330 => (if x5.length < 5864062014805 then (spec_l5Draw.l0 k x1 (x5 ++ [bt330.1]) (wrap64 (x6 - 1)) x1000 bt330.2.1 bt330.2.2) else (none))) else (some (x5, x1001, x1002))
def spec_l5Draw.f (k : Nat) (s0_0 : List Int) (s0_1 : Int) (s0_2 : Int) (a1 : Int) : Option ((List (List Int)) × Int × Int) := (spec_l1Below.f s0_0 s0_1 s0_2 7).bind fun bt327 => (spec_l5Draw.l0 k a1 (([] : List (List Int))) bt327.1 s0_0 bt327.2.1 bt327.2.2)
set_option maxHeartbeats 8000000 in
set_option maxRecDepth 100000 in
theorem spec_l5Draw.calls (k : Nat) (g : Nat) (s0_0 : List Int) (s0_1 : Int) (s0_2 : Int) (a1 : Int) (r1 : List (List Int)) (r2 : Int) (r3 : Int) (w0 w : World) (hI : IsS89 w0 w g s0_0 s0_1 s0_2) (hB : Below w0.heap.size w0 w) (h : spec_l5Draw.f k s0_0 s0_1 s0_2 a1 = some (r1, r2, r3)) :
 Calls Try.prog 112 #[.pointer (some ⟨g, 0, none⟩), .int .i64 a1] w fun e w' => ∃ v0_ : Value, e = .returned (v0_) ∧ Kd.S (Kd.slice 3 (Kd.int .i64)) 23 w' w.heap.size (fun _ => True) v0_ r1 ∧ IsS89 w0 w' g s0_0 r2 r3 ∧ Below w0.heap.size w0 w' ∧ KeepBut w w' g none := by
 have HI0:=aM hI;have HK:=aM (KeepBut.refl w g none);have HL:=aM hB.size;clear hI;have HW0:=aM hB.size;have HB:=aM hB;clear hB;have H:((spec_l1Below.f s0_0 s0_1 s0_2 7).bind fun bt327=>(spec_l5Draw.l0 k a1 (([]:List (List Int))) bt327.1 s0_0 bt327.2.1 bt327.2.2))=some (r1,r2,r3):=h;clear h;obtain ⟨y324,hy324⟩:∃y_:List (List Int),y_=(([]:List (List Int))):=⟨_,rfl⟩;replace H:((spec_l1Below.f s0_0 s0_1 s0_2 7).bind fun bt327=>(spec_l5Draw.l0 k a1 y324 bt327.1 s0_0 bt327.2.1 bt327.2.2))=some (r1,r2,r3):=(by first|(rw [hy324];with_reducible exact H)|(have H2_:=(Option.bind_some _ _).symm.trans H;rw [hy324];with_reducible exact H2_)|(have H2_:=(Option.bind_some _ _).symm.trans H;with_reducible exact H2_)|with_reducible exact H|(rw [hy324];exact H)|exact H);have Ny324:=aM hy324;clear hy324;obtain ⟨⟨t327,t328,t329⟩,A3,H⟩:=bz H;dsimp only at H;have H':=aM H;clear H;go_enter Try.func112,Try.ntmps112;go_wp2_with (first|((with_reducible refine gate_dst (N:=7) rfl ?_);refine Kd.S_lit (Kd.slice 3 (Kd.int .i64)) _ 23 ?hg (N:=7) ?hd (xs:=([]:List (List Int))) (inner:=[]) (ok:=fun _=>True) (okp:=fun _=>True) ?hr ?hp (fun _ hk=>hk) trivial (Below.refl _ _) (Nat.le_refl _) (by simp) ?_;(case hd=>rfl);(case hg=>rfl);(case hr=>first|(go_simp;done)|(go_simp;rfl));(case hp=>exact (Reps.none _ _));intro v325 w4 ho5 hb hg_ hnew_;clear hg_ hnew_;(first|rw [← Ny324.out] at ho5|(simp only [Int.reduceToNat] at ho5;rw [← Ny324.out] at ho5));have HO326:=aM (Kd.S_lower ho5 (keep_size (w:=w) (g:=g) (row:=none) (by repeat (first|(with_reducible first|exact HK.out|apply KeepBut.set_|apply keep_drewN|apply keep_drew|apply keep_alloc)|exact HK.out))));replace HK:=aM (KeepBut.trans (by repeat (first|(with_reducible first|exact HK.out|apply KeepBut.set_|apply keep_drewN|apply keep_drew|apply keep_alloc)|exact HK.out)) (KeepBut.of_below hb g none) (.inl rfl));replace HB:=aM (below_step (by repeat (first|(with_reducible first|exact HB.out|apply below_alloc|apply pw_below_drewN|apply below_drew1|refine below_set ?_ (IsS89.ge HI0.out))|exact HB.out)) hb);replace HI0:=aM (IsS89.below (by repeat (first|(with_reducible first|exact HI0.out|apply IsS89.alloc|apply IsS89.drewN|apply IsS89.drew|apply IsS89.set_1|apply IsS89.set_2)|exact HI0.out)) hb);clear hb ho5)|((with_reducible refine gate_callee (f:=63) rfl ?_);refine gm (some 9) Try.func63 #[.pointer (some ⟨g,0,none⟩),.int .i64 7] ?_;(with_reducible refine (spec_l1Below.calls g s0_0 s0_1 s0_2 7 t327 t328 t329 w0 _ ?side1 ?side2 A3.out).mono ?_);(case side1=>repeat (first|(with_reducible first|exact HI0.out|apply IsS89.alloc|apply IsS89.drewN|apply IsS89.drew|apply IsS89.set_1|apply IsS89.set_2)|exact HI0.out));(case side2=>repeat (first|(with_reducible first|exact HB.out|apply below_alloc|apply pw_below_drewN|apply below_drew1|refine below_set ?_ (IsS89.ge HI0.out))|exact HB.out));rintro e w6 ⟨rfl,hi,hb,hk⟩;refine ⟨_,rfl,?_⟩;replace HO326:=aM (Kd.S_mono (Kd.S_keep (IsS89.apartS (show IsS89 w0 _ g s0_0 s0_1 s0_2 from by repeat (first|(with_reducible first|exact HI0.out|apply IsS89.alloc|apply IsS89.drewN|apply IsS89.drew|apply IsS89.set_1|apply IsS89.set_2)|exact HI0.out)) (by (with_reducible repeat (first|apply Kd.S_alloc|apply Kd.S_drewN|apply Kd.S_drew));exact HO326.out) (by decide)) hk (fun _ h=>h.2)) (fun _ h=>h.1));replace HK:=aM (KeepBut.trans (by repeat (first|(with_reducible first|exact HK.out|apply KeepBut.set_|apply keep_drewN|apply keep_drew|apply keep_alloc)|exact HK.out)) hk (.inl rfl));replace HB:=aM (hb);replace HI0:=aM (hi);(try clear hb);(try clear hb2);(try clear hk);(try clear hi)));go_loopg [5,6] k (fun kq v5 v6 w'=>∃(x5_1:List (List Int)) (x6_1:Int) (x1001_1:Int) (x1002_1:Int),v6 = .int .i64 x6_1∧Aside0 (spec_l5Draw.l0 kq a1 x5_1 x6_1 s0_0 x1001_1 x1002_1=some (r1,r2,r3))∧Aside0 (kq≤k)∧Aside0 (Kd.S (Kd.slice 3 (Kd.int .i64)) 23 w' w.heap.size (fun _=>True) v5 x5_1)∧Aside0 (IsS89 w0 w' g s0_0 x1001_1 x1002_1)∧Aside0 (KeepBut w w' g none)∧Aside0 (Below w0.heap.size w0 w'));(case atStart=>exact ⟨(y324),(t327),(t328),(t329),zt,H',⟨Nat.le_refl _⟩,⟨by (with_reducible repeat (first|apply Kd.S_alloc|apply Kd.S_drewN|apply Kd.S_drew));exact HO326.out⟩,⟨by repeat (first|(with_reducible first|exact HI0.out|apply IsS89.alloc|apply IsS89.drewN|apply IsS89.drew|apply IsS89.set_1|apply IsS89.set_2)|exact HI0.out)⟩,⟨by repeat (first|(with_reducible first|exact HK.out|apply KeepBut.set_|apply keep_drewN|apply keep_drew|apply keep_alloc)|exact HK.out)⟩,⟨by repeat (first|(with_reducible first|exact HB.out|apply below_alloc|apply pw_below_drewN|apply below_drew1|refine below_set ?_ (IsS89.ge HI0.out))|exact HB.out)⟩⟩)
 case round=>
  clear H';(try clear c1);(try clear p2);(try clear c6);obtain ⟨x5_1,x6_1,x1001_1,x1002_1,rfl,HA,HK1,HO_5,HI0,HK,HB⟩:=hrel;cases gk with
  | zero=>exact absurd HA.out (by simp [spec_l5Draw.l0])
  | succ k1=>
   have H:=HA.out;clear HA;simp only [spec_l5Draw.l0] at H;by_cases c7:x6_1 > 0
   ·rw [if_pos c7] at H;have c7b0:decide (0<x6_1)=true:=decide_eq_true c7;clear c7;obtain ⟨⟨t330,t333,t334⟩,A8,H⟩:=bz H;dsimp only at H;by_cases c9:x5_1.length<5864062014805
    ·rw [if_pos c9] at H;have LMc9:=aM c9;clear c9;obtain ⟨y335,hy335⟩:∃y_:List (List Int),y_=(x5_1 ++ [t330]):=⟨_,rfl⟩;replace H:(spec_l5Draw.l0 k1 a1 y335 (wrap64 (x6_1-1)) s0_0 t333 t334)=some (r1,r2,r3):=(by first|(rw [hy335];with_reducible exact H)|(have H2_:=(Option.bind_some _ _).symm.trans H;rw [hy335];with_reducible exact H2_)|(have H2_:=(Option.bind_some _ _).symm.trans H;with_reducible exact H2_)|with_reducible exact H|(rw [hy335];exact H)|exact H);have Ny335:=aM hy335;clear hy335;have H':=aM H;clear H;go_wp2_with (first|((with_reducible refine gate_callee (f:=67) rfl ?_);refine gm (some 17) Try.func67 #[.pointer (some ⟨g,0,none⟩),.int .i64 a1] ?_;(with_reducible refine (spec_l5Row.calls k1 g s0_0 x1001_1 x1002_1 a1 t330 t333 t334 w0 _ ?side1 ?side2 A8.out).mono ?_);(case side1=>repeat (first|(with_reducible first|exact HI0.out|apply IsS89.alloc|apply IsS89.drewN|apply IsS89.drew|apply IsS89.set_1|apply IsS89.set_2)|exact HI0.out));(case side2=>repeat (first|(with_reducible first|exact HB.out|apply below_alloc|apply pw_below_drewN|apply below_drew1|refine below_set ?_ (IsS89.ge HI0.out))|exact HB.out));rintro e w10 ⟨v331,rfl,ho0,hi,hb,hk⟩;refine ⟨_,rfl,?_⟩;replace HO_5:=aM (Kd.S_mono (Kd.S_told (Kd.S_oldK (IsS89.apartS (show IsS89 w0 _ g s0_0 x1001_1 x1002_1 from by repeat (first|(with_reducible first|exact HI0.out|apply IsS89.alloc|apply IsS89.drewN|apply IsS89.drew|apply IsS89.set_1|apply IsS89.set_2)|exact HI0.out)) (by (with_reducible repeat (first|apply Kd.S_alloc|apply Kd.S_drewN|apply Kd.S_drew));exact HO_5.out) (by decide)) hk) (Kd.R_base ho0)) (fun _ h_=>h_.1));have HO332:=aM (Kd.R_lower ho0 (keep_size (w:=w) (g:=g) (row:=none) (by repeat (first|(with_reducible first|exact HK.out|apply KeepBut.set_|apply keep_drewN|apply keep_drew|apply keep_alloc)|exact HK.out))));replace HK:=aM (KeepBut.trans (by repeat (first|(with_reducible first|exact HK.out|apply KeepBut.set_|apply keep_drewN|apply keep_drew|apply keep_alloc)|exact HK.out)) hk (.inl rfl));replace HB:=aM (hb);replace HI0:=aM (hi);(try clear hb);(try clear hb2);(try clear hk);(try clear hi);(try clear ho0);obtain ⟨Ao12,co12,eo12⟩:=Kd.R_slice HO332.out;subst eo12)|((with_reducible refine gate_builtin (b:=.append) (xs:=#[.tmp 14,.tmp 18]) rfl ?_);at_builtin;refine Kd.S_append (Kd.slice 3 (Kd.int .i64)) w.heap.size rfl (.tmp 14) (.tmp 18) 22 23 (.slice none 0 0) 24 rfl Try.underlying22 info23 rfl (by decide) (by omega) u5 x5_1 t330 [.slice Ao12 t330.length co12] (fun _=>True) (fun k_=>some k_=(.slice Ao12 t330.length co12:Value).ownBlock) rfl rfl ?aP (fun k_ hk_=>((Kd.R_mono (ok':=fun k_=>((fun _=>True)) k_∧some k_≠(u5:Value).ownBlock) (Kd.R_apart' (HO332.out) (Kd.S_typed HO_5.out) (by decide)) (fun k_ hk=>⟨trivial,hk.2⟩))).1 k_ hk_.symm) ?aF ?aO (Below.refl _ _) ?aS ?aL ?_;(case aP=>exact Kd.M_row (Kd.R_mono (Kd.R_tight rfl (Kd.R_mono (ok':=fun k_=>((fun _=>True)) k_∧some k_≠(u5:Value).ownBlock) (Kd.R_apart' (HO332.out) (Kd.S_typed HO_5.out) (by decide)) (fun k_ hk=>⟨trivial,hk.2⟩))) (fun _ h_=>h_)));(case aF=>exact (fun _ _=>trivial));(case aO=>exact (by (with_reducible repeat (first|apply Kd.S_alloc|apply Kd.S_drewN|apply Kd.S_drew));exact Kd.S_mono HO_5.out (fun k_ hk=>⟨trivial,fun e_=>hk.2 e_⟩)));(case aS=>exact (keep_size (w:=w) (g:=g) (row:=none) (by repeat (first|(with_reducible first|exact HK.out|apply KeepBut.set_|apply keep_drewN|apply keep_drew|apply keep_alloc)|exact HK.out))));(case aL=>have:=LMc9.out;omega);intro v336 w11 ho hb hg hat;rw [← Ny335.out] at ho;replace HB:=aM (below_weaken (by repeat (first|(with_reducible first|exact HB.out|apply below_alloc|apply pw_below_drewN|apply below_drew1|refine below_set ?_ (IsS89.ge HI0.out))|exact HB.out)) HL.out hb);replace HI0:=aM (IsS89.grown (by repeat (first|(with_reducible first|exact HI0.out|apply IsS89.alloc|apply IsS89.drewN|apply IsS89.drew|apply IsS89.set_1|apply IsS89.set_2)|exact HI0.out)) hg (IsS89.own_neS HI0.out HO_5.out (by decide)));replace HK:=aM (KeepBut.trans (by repeat (first|(with_reducible first|exact HK.out|apply KeepBut.set_|apply keep_drewN|apply keep_drew|apply keep_alloc)|exact HK.out)) (KeepBut.of_grown hg g) (Kd.S_base2 HO_5.out));have HO337:=aM (ho);clear HO_5 HO332 ho hb hg hat));go_roundg k1;(case measure=>have:=HK1.out;omega);(case rel=>exact ⟨(y335),(wrap64 (x6_1-1)),(t333),(t334),zt,H',⟨by have:=HK1.out;omega⟩,⟨by (with_reducible repeat (first|apply Kd.S_alloc|apply Kd.S_drewN|apply Kd.S_drew));exact HO337.out⟩,⟨by repeat (first|(with_reducible first|exact HI0.out|apply IsS89.alloc|apply IsS89.drewN|apply IsS89.drew|apply IsS89.set_1|apply IsS89.set_2)|exact HI0.out)⟩,⟨by repeat (first|(with_reducible first|exact HK.out|apply KeepBut.set_|apply keep_drewN|apply keep_drew|apply keep_alloc)|exact HK.out)⟩,⟨by repeat (first|(with_reducible first|exact HB.out|apply below_alloc|apply pw_below_drewN|apply below_drew1|refine below_set ?_ (IsS89.ge HI0.out))|exact HB.out)⟩⟩)
    ·rw [if_neg c9] at H;exact absurd H (by simp)
   ·rw [if_neg c7] at H;have c7b0:decide (0<x6_1)=false:=decide_eq_false c7;clear c7;simp only [Option.some.injEq,Prod.mk.injEq] at H;obtain ⟨rfl,rfl,rfl⟩:=H;go_wp2;go_ret;exact ⟨_,by first|rfl|(simp [errW_none,errW_some]<;>rfl)|(simp [*,errW_none,errW_some]<;>rfl),by (with_reducible repeat (first|apply Kd.S_alloc|apply Kd.S_drewN|apply Kd.S_drew));exact HO_5.out,by repeat (first|(with_reducible first|exact HI0.out|apply IsS89.alloc|apply IsS89.drewN|apply IsS89.drew|apply IsS89.set_1|apply IsS89.set_2)|exact HI0.out),by repeat (first|(with_reducible first|exact HB.out|apply below_alloc|apply pw_below_drewN|apply below_drew1|refine below_set ?_ (IsS89.ge HI0.out))|exact HB.out),by repeat (first|(with_reducible first|exact HK.out|apply KeepBut.set_|apply keep_drewN|apply keep_drew|apply keep_alloc)|exact HK.out)⟩
def spec_l5Any.l0 : Nat → Int → List (List Int) → List Int → Int → Int → Option ((List (List Int)) × Int × Int)
 | 0, _, _, _, _, _ => none
 | k + 1, x1, x5, x1000, x1001, x1002 => if (x5.length : Int) < 13 then ((spec_l5Row.f k x1000 x1001 x1002 x1).bind fun bt361 => (if x5.length < 5864062014805 then (spec_l5Any.l0 k x1 (x5 ++ [bt361.1]) x1000 bt361.2.1 bt361.2.2) else (none))) else (some (x5, x1001, x1002))
def spec_l5Any.f (k : Nat) (s0_0 : List Int) (s0_1 : Int) (s0_2 : Int) (a1 : Int) : Option ((List (List Int)) × Int × Int) := (spec_l5Draw.f k s0_0 s0_1 s0_2 a1).bind fun bt338 => (if (bt338.1.length : Int) = 0 then (some (bt338.1, bt338.2.1, bt338.2.2)) else ((spec_l1Below.f s0_0 bt338.2.1 bt338.2.2 9).bind fun bt343 => (if bt343.1 = 0 then (if 0 < (bt338.1.length : Int) then (if (rd_L1 bt338.1 0).length < 17592186044416 then (some ((bt338.1.set (0 : Int).toNat ((rd_L1 bt338.1 0) ++ [1])), bt343.2.1, bt343.2.2)) else (none)) else (none)) else (if bt343.1 = 1 then (if 0 < (bt338.1.length : Int) then ((spec_l1Int.f s0_0 bt343.2.1 bt343.2.2 (([3, (-3), 9223372036854775807] : List Int))).bind fun bt355 => (if 0 < ((rd_L1 bt338.1 0).length : Int) then (some ((bt338.1.set (0 : Int).toNat ((rd_L1 bt338.1 0).set (0 : Int).toNat bt355.1)), bt355.2.1, bt355.2.2)) else (none))) else (none)) else (if bt343.1 = 2 then (spec_l5Any.l0 k a1 bt338.1 s0_0 bt343.2.1 bt343.2.2) else (some (bt338.1, bt343.2.1, bt343.2.2)))))))
def spec_l5Any.T8 : Bool × List (List Nat × List Nat) := (true, [([], []), ([0], [0]), ([1], [1]), ([], []), ([], []), ([3, 4], [3, 4]), ([2, 0, 1, 2, 3, 4, 5], [2]), ([6, 5, 5, 0, 1, 2, 3, 4, 5], [5, 6])])
def spec_l5Any.B8 : List Nat := [0, 1, 3, 0, 0, 24, 63, 127]
theorem spec_l5Any.tab8 : rtab .any (opsOf Try.f100 8) = spec_l5Any.T8 := by kernel_rfl
theorem spec_l5Any.bits8 : waitsOk spec_l5Any.T8.2 spec_l5Any.B8 = true := by kernel_rfl
set_option maxHeartbeats 8000000 in
set_option maxRecDepth 100000 in
theorem spec_l5Any.calls (k : Nat) (g : Nat) (s0_0 : List Int) (s0_1 : Int) (s0_2 : Int) (a1 : Int) (r1 : List (List Int)) (r2 : Int) (r3 : Int) (w0 w : World) (hI : IsS89 w0 w g s0_0 s0_1 s0_2) (hB : Below w0.heap.size w0 w) (h : spec_l5Any.f k s0_0 s0_1 s0_2 a1 = some (r1, r2, r3)) :
 Calls Try.prog 100 #[.pointer (some ⟨g, 0, none⟩), .int .i64 a1] w fun e w' => ∃ v0_ : Value, e = .returned (v0_) ∧ Kd.S (Kd.slice 3 (Kd.int .i64)) 23 w' w.heap.size (fun _ => True) v0_ r1 ∧ IsS89 w0 w' g s0_0 r2 r3 ∧ Below w0.heap.size w0 w' ∧ KeepBut w w' g none := by
 have HI0:=aM hI;have HK:=aM (KeepBut.refl w g none);have HL:=aM hB.size;clear hI;have HW0:=aM hB.size;have HB:=aM hB;clear hB;have H:((spec_l5Draw.f k s0_0 s0_1 s0_2 a1).bind fun bt338=>(if (bt338.1.length:Int)=0 then (some (bt338.1,bt338.2.1,bt338.2.2)) else ((spec_l1Below.f s0_0 bt338.2.1 bt338.2.2 9).bind fun bt343=>(if bt343.1=0 then (if 0<(bt338.1.length:Int) then (if (rd_L1 bt338.1 0).length<17592186044416 then (some ((bt338.1.set (0:Int).toNat ((rd_L1 bt338.1 0) ++ [1])),bt343.2.1,bt343.2.2)) else (none)) else (none)) else (if bt343.1=1 then (if 0<(bt338.1.length:Int) then ((spec_l1Int.f s0_0 bt343.2.1 bt343.2.2 (([3,(-3),9223372036854775807]:List Int))).bind fun bt355=>(if 0<((rd_L1 bt338.1 0).length:Int) then (some ((bt338.1.set (0:Int).toNat ((rd_L1 bt338.1 0).set (0:Int).toNat bt355.1)),bt355.2.1,bt355.2.2)) else (none))) else (none)) else (if bt343.1=2 then (spec_l5Any.l0 k a1 bt338.1 s0_0 bt343.2.1 bt343.2.2) else (some (bt338.1,bt343.2.1,bt343.2.2))))))))=some (r1,r2,r3):=h;clear h;obtain ⟨⟨t338,t341,t342⟩,A3,H⟩:=bz H;dsimp only at H;by_cases c4:(t338.length:Int)=0
 ·rw [if_pos c4] at H;have c4b0:((t338.length:Int) == 0)=true:=beq_iff_eq.mpr c4;have c4b1:((t338.length:Int) != 0)=false:=bne_eq_false_iff_eq.mpr c4;clear c4;simp only [Option.some.injEq,Prod.mk.injEq] at H;obtain ⟨rfl,rfl,rfl⟩:=H;go_enter Try.func100,Try.ntmps100;go_wp2_with (first|((with_reducible refine gate_callee (f:=112) rfl ?_);refine gm (some 8) Try.func112 #[.pointer (some ⟨g,0,none⟩),.int .i64 a1] ?_;(with_reducible refine (spec_l5Draw.calls k g s0_0 s0_1 s0_2 a1 t338 t341 t342 w0 _ ?side1 ?side2 A3.out).mono ?_);(case side1=>repeat (first|(with_reducible first|exact HI0.out|apply IsS89.alloc|apply IsS89.drewN|apply IsS89.drew|apply IsS89.set_1|apply IsS89.set_2)|exact HI0.out));(case side2=>repeat (first|(with_reducible first|exact HB.out|apply below_alloc|apply pw_below_drewN|apply below_drew1|refine below_set ?_ (IsS89.ge HI0.out))|exact HB.out));rintro e w5 ⟨v339,rfl,ho0,hi,hb,hk⟩;refine ⟨_,rfl,?_⟩;have HO340:=aM (Kd.S_lower ho0 (keep_size (w:=w) (g:=g) (row:=none) (by repeat (first|(with_reducible first|exact HK.out|apply KeepBut.set_|apply keep_drewN|apply keep_drew|apply keep_alloc)|exact HK.out))));replace HK:=aM (KeepBut.trans (by repeat (first|(with_reducible first|exact HK.out|apply KeepBut.set_|apply keep_drewN|apply keep_drew|apply keep_alloc)|exact HK.out)) hk (.inl rfl));replace HB:=aM (hb);replace HI0:=aM (hi);(try clear hb);(try clear hb2);(try clear hk);(try clear hi);(try clear ho0);obtain ⟨Ao6,co6,eo6⟩:=Kd.S_slice HO340.out;subst eo6));go_ret;exact ⟨_,by first|rfl|(simp [errW_none,errW_some]<;>rfl)|(simp [*,errW_none,errW_some]<;>rfl),by (with_reducible repeat (first|apply Kd.S_alloc|apply Kd.S_drewN|apply Kd.S_drew));exact HO340.out,by repeat (first|(with_reducible first|exact HI0.out|apply IsS89.alloc|apply IsS89.drewN|apply IsS89.drew|apply IsS89.set_1|apply IsS89.set_2)|exact HI0.out),by repeat (first|(with_reducible first|exact HB.out|apply below_alloc|apply pw_below_drewN|apply below_drew1|refine below_set ?_ (IsS89.ge HI0.out))|exact HB.out),by repeat (first|(with_reducible first|exact HK.out|apply KeepBut.set_|apply keep_drewN|apply keep_drew|apply keep_alloc)|exact HK.out)⟩
 ·rw [if_neg c4] at H;have c4b0:((t338.length:Int) == 0)=false:=beq_eq_false_iff_ne.mpr c4;have c4b1:((t338.length:Int) != 0)=true:=bne_iff_ne.mpr c4;have c4b2:¬(t338=[]):=fun h_=>c4 (by rw [h_];rfl);obtain ⟨⟨t343,t344,t345⟩,A7,H⟩:=bz H;dsimp only at H;by_cases c8:t343=0
  ·rw [if_pos c8] at H;have c8b0:(t343 == 0)=true:=beq_iff_eq.mpr c8;have c8b1:(t343 != 0)=false:=bne_eq_false_iff_eq.mpr c8;clear c8;obtain ⟨c9b0,H⟩:=iN H;have c9:=of_decide_eq_true c9b0;have c9b1:decide (0<t338.length)=true:=decide_eq_true (by omega);clear c9;by_cases c10:(rd_L1 t338 0).length<17592186044416
   ·rw [if_pos c10] at H;have LMc10:=aM c10;clear c10;obtain ⟨y347,hy347⟩:∃y_:List Int,y_=((rd_L1 t338 0) ++ [1]):=⟨_,rfl⟩;replace H:(some ((t338.set (0:Int).toNat y347),t344,t345))=some (r1,r2,r3):=(by first|(rw [hy347];with_reducible exact H)|(have H2_:=(Option.bind_some _ _).symm.trans H;rw [hy347];with_reducible exact H2_)|(have H2_:=(Option.bind_some _ _).symm.trans H;with_reducible exact H2_)|with_reducible exact H|(rw [hy347];exact H)|exact H);have Ny347:=aM hy347;clear hy347;obtain ⟨y350,hy350⟩:∃y_:List (List Int),y_=(t338.set (0:Int).toNat y347):=⟨_,rfl⟩;replace H:(some (y350,t344,t345))=some (r1,r2,r3):=(by first|(rw [hy350];with_reducible exact H)|(have H2_:=(Option.bind_some _ _).symm.trans H;rw [hy350];with_reducible exact H2_)|(have H2_:=(Option.bind_some _ _).symm.trans H;with_reducible exact H2_)|with_reducible exact H|(rw [hy350];exact H)|exact H);have Ny350:=aM hy350;clear hy350;simp only [Option.some.injEq,Prod.mk.injEq] at H;obtain ⟨rfl,rfl,rfl⟩:=H;go_enter Try.func100,Try.ntmps100;go_wp2_with (first|((with_reducible refine gate_callee (f:=112) rfl ?_);refine gm (some 8) Try.func112 #[.pointer (some ⟨g,0,none⟩),.int .i64 a1] ?_;(with_reducible refine (spec_l5Draw.calls k g s0_0 s0_1 s0_2 a1 t338 t341 t342 w0 _ ?side1 ?side2 A3.out).mono ?_);(case side1=>repeat (first|(with_reducible first|exact HI0.out|apply IsS89.alloc|apply IsS89.drewN|apply IsS89.drew|apply IsS89.set_1|apply IsS89.set_2)|exact HI0.out));(case side2=>repeat (first|(with_reducible first|exact HB.out|apply below_alloc|apply pw_below_drewN|apply below_drew1|refine below_set ?_ (IsS89.ge HI0.out))|exact HB.out));rintro e w12 ⟨v339,rfl,ho0,hi,hb,hk⟩;refine ⟨_,rfl,?_⟩;have HO340:=aM (Kd.S_lower ho0 (keep_size (w:=w) (g:=g) (row:=none) (by repeat (first|(with_reducible first|exact HK.out|apply KeepBut.set_|apply keep_drewN|apply keep_drew|apply keep_alloc)|exact HK.out))));replace HK:=aM (KeepBut.trans (by repeat (first|(with_reducible first|exact HK.out|apply KeepBut.set_|apply keep_drewN|apply keep_drew|apply keep_alloc)|exact HK.out)) hk (.inl rfl));replace HB:=aM (hb);replace HI0:=aM (hi);(try clear hb);(try clear hb2);(try clear hk);(try clear hi);(try clear ho0);obtain ⟨Ao13,co13,eo13⟩:=Kd.S_slice HO340.out;subst eo13)|((with_reducible refine gate_callee (f:=63) rfl ?_);refine gm (some 14) Try.func63 #[.pointer (some ⟨g,0,none⟩),.int .i64 9] ?_;(with_reducible refine (spec_l1Below.calls g s0_0 t341 t342 9 t343 t344 t345 w0 _ ?side1 ?side2 A7.out).mono ?_);(case side1=>repeat (first|(with_reducible first|exact HI0.out|apply IsS89.alloc|apply IsS89.drewN|apply IsS89.drew|apply IsS89.set_1|apply IsS89.set_2)|exact HI0.out));(case side2=>repeat (first|(with_reducible first|exact HB.out|apply below_alloc|apply pw_below_drewN|apply below_drew1|refine below_set ?_ (IsS89.ge HI0.out))|exact HB.out));rintro e w14 ⟨rfl,hi,hb,hk⟩;refine ⟨_,rfl,?_⟩;replace HO340:=aM (Kd.S_mono (Kd.S_keep (IsS89.apartS (show IsS89 w0 _ g s0_0 t341 t342 from by repeat (first|(with_reducible first|exact HI0.out|apply IsS89.alloc|apply IsS89.drewN|apply IsS89.drew|apply IsS89.set_1|apply IsS89.set_2)|exact HI0.out)) (by (with_reducible repeat (first|apply Kd.S_alloc|apply Kd.S_drewN|apply Kd.S_drew));exact HO340.out) (by decide)) hk (fun _ h=>h.2)) (fun _ h=>h.1));replace HK:=aM (KeepBut.trans (by repeat (first|(with_reducible first|exact HK.out|apply KeepBut.set_|apply keep_drewN|apply keep_drew|apply keep_alloc)|exact HK.out)) hk (.inl rfl));replace HB:=aM (hb);replace HI0:=aM (hi);(try clear hb);(try clear hb2);(try clear hk);(try clear hi);have p346:0≤(0:Int):=(by omega);have q346:0<(t338.length:Int):=zd;obtain ⟨ad346,A346_0,c346_0,e346,hx346_0,hl346_0,hi346_0⟩:=at_L1 (Kd.S_reads' HO340.out).2.2 0 p346 q346;cases e346;obtain ⟨ce346,hce346,hMe346,hcc346⟩:=Kd.S_get HO340.out [] 0 p346 (by first|exact q346|exact zd|(have e_:=(Kd.S_reads' HO340.out).1;omega));obtain ⟨ve346_0,rfl,ge346_0⟩:=hMe346;have hv346_0:=hcc346 0 _ rfl;rw [Nat.add_zero,show ((Kd.slice 3 (Kd.int .i64))).sz=1 from rfl,Nat.mul_one] at hv346_0;replace hv346_0:=Option.some.inj (hv346_0.symm.trans hx346_0);rw [hv346_0] at ge346_0;have HL346_0:=aM (show Kd.R (Kd.int .i64) 3 _ _ _ _ (rd_L1 t338 0) from ge346_0);clear hv346_0 ge346_0;have HX346_0:=aM hx346_0;clear hcc346 hce346;have qi346:(0<t338.length)=True:=eq_true (by omega);(try rw [show ((0:Int)).toNat=0 from rfl] at hx346_0);(try rw [Addr.add_zero'] at hx346_0);have HR346_0:=aM hi346_0;have HC346_0:=aM hl346_0;clear hi346_0 hl346_0;replace p346:=eq_true p346;replace q346:=eq_true q346;obtain ⟨go15,co15,eo15,gb15,gl15,cl15,HG15⟩:=Kd.S_form HO340.out (by have h_:(0:Int)<((t338.length:Int):Int):=zd;have h2_:0≤(0:Int):=(by omega);omega);(first|cases eo15|(injection eo15 with ea_ en_ ec_;(first|subst ea_|(injection ea_ with ea_;subst ea_));subst ec_;clear en_));have GB15:=aM gb15;have GG15:=aM HG15;clear gb15 gl15 HG15;(first|simp only [add_plain] at hx346_0|skip);obtain ⟨oki15,ce15,hcl15,hM15,hcc15,_,_,hH15⟩:=Kd.S_elem HO340.out [] (0:Int) (by omega) (by have h_:(0:Int)<((t338.length:Int):Int):=zd;first|exact h_|(have e_:=(Kd.S_reads' HO340.out).1;omega)|simpa using h_);obtain ⟨ve15_0,rfl,ge15_0⟩:=hM15;have hv15:=hcc15 0 _ rfl;have hX15:=HX346_0.out;(try simp only [add_plain] at hX15);(try simp only [Nat.add_zero] at hv15);(try rw [show ((Kd.slice 3 (Kd.int .i64))).sz=1 from rfl,Nat.mul_one] at hv15);replace hv15:=Option.some.inj (hv15.symm.trans hX15);subst hv15;clear hX15 hcc15 hcl15;have UU15:=aM (show Kd.R (Kd.int .i64) 3 _ w.heap.size oki15 (.slice A346_0 (rd_L1 t338 0).length c346_0) (rd_L1 t338 0) from ge15_0);have HH15:=aM hH15;have HN15:=aM (Kd.S_reads' HO340.out).1;clear hH15 ge15_0)|((with_reducible refine gate_builtin (b:=.append) (xs:=#[.tmp 20,.tmp 21]) rfl ?_);at_builtin;refine Kd.R_append (Kd.int .i64) w.heap.size rfl (.tmp 20) (.tmp 21) 23 3 (.int .i64 0) 8 rfl Try.underlying23 info3 rfl (by decide) (by omega) (.slice A346_0 (rd_L1 t338 0).length c346_0) (rd_L1 t338 0) 1 [.int .i64 1] (fun k_=>oki15 k_∨((fun _=>True)) k_∧w14.heap.size≤k_) (fun _=>False) rfl rfl ?aP (fun _ hk=>hk.elim) ?aF ?aO (Below.refl _ _) ?aS ?aL ?_;(case aP=>exact rfl);(case aF=>exact (fun k_ hk=>.inr ⟨trivial,hk⟩));(case aO=>exact (by (with_reducible repeat (first|apply Kd.R_alloc|apply Kd.R_drewN|apply Kd.R_drew));exact Kd.R_mono UU15.out (fun _ hk=>.inl hk)));(case aS=>exact (keep_size (w:=w) (g:=g) (row:=none) (by repeat (first|(with_reducible first|exact HK.out|apply KeepBut.set_|apply keep_drewN|apply keep_drew|apply keep_alloc)|exact HK.out))));(case aL=>have:=LMc10.out;omega);intro v348 w16 ho hb hg hat;rw [← Ny347.out] at ho;replace HB:=aM (below_weaken (by repeat (first|(with_reducible first|exact HB.out|apply below_alloc|apply pw_below_drewN|apply below_drew1|refine below_set ?_ (IsS89.ge HI0.out))|exact HB.out)) HL.out hb);replace HI0:=aM (IsS89.grown (by repeat (first|(with_reducible first|exact HI0.out|apply IsS89.alloc|apply IsS89.drewN|apply IsS89.drew|apply IsS89.set_1|apply IsS89.set_2)|exact HI0.out)) hg (IsS89.own_ne HI0.out HL346_0.out (by decide)));replace HK:=aM (KeepBut.trans (by repeat (first|(with_reducible first|exact HK.out|apply KeepBut.set_|apply keep_drewN|apply keep_drew|apply keep_alloc)|exact HK.out)) (KeepBut.of_grown hg g) (Kd.R_base2 HL346_0.out));replace HH15:=aM (Kd.H_grown (Kd.H_widen (by repeat (first|exact HH15.out|refine Kd.H_alloc ?_ _|refine Kd.H_drewN ?_ _|refine Kd.H_drew ?_))) hg (fun k_ e_=>.inl (UU15.out.1 k_ e_)));have HO349:=aM (ho);clear HO340 UU15 HL346_0 ho hb hg hat;have p11:0≤(0:Int):=(by omega);have q11:(0:Int)<((t338.length:Int):Int):=zd;replace p11:=eq_true p11;replace q11:=eq_true q11;obtain ⟨Ao19,co19,eo19⟩:=Kd.R_slice HO349.out;subst eo19;obtain ⟨_,_,hraw17,_,_,hcc17,_⟩:=Kd.H_raw HH15.out (by omega) (by have h_:(0:Int)<((t338.length:Int):Int):=zd;first|exact h_|(have e_:=(HN15.out);omega)|simpa using h_);obtain ⟨_,hfr17⟩:=Kd.H_at HH15.out (by omega) (by have h_:(0:Int)<((t338.length:Int):Int):=zd;first|exact h_|(have e_:=(HN15.out);omega)|simpa using h_);have hx17_0:=hcc17 0 _ rfl;have hf17_0:=hfr17 0;(try simp only [Nat.add_zero] at hx17_0 hf17_0);(try rw [show ((Kd.slice 3 (Kd.int .i64))).sz=1 from rfl,Nat.mul_one] at hx17_0);(try rw [show ((Kd.slice 3 (Kd.int .i64))).sz=1 from rfl,Nat.mul_one] at hf17_0);(try rw [show ((0:Int)).toNat=0 from rfl] at hx17_0);(try simp only [Nat.reduceMul,Nat.zero_mul,Nat.zero_add,Nat.reduceAdd] at hx17_0);(try rw [show ((0:Int)).toNat=0 from rfl] at hf17_0);(try simp only [Nat.reduceMul,Nat.zero_mul,Nat.zero_add,Nat.reduceAdd] at hf17_0);have HP17:=Kd.S_seg0 HH15.out (by omega) (by have h_:(0:Int)<((t338.length:Int):Int):=zd;first|exact h_|(have e_:=(HN15.out);omega)|simpa using h_) (seg:=[.slice Ao19 y347.length co19]) (j:=0) (show 1≤1 from by decide) (x':=y347) (Kd.M_row HO349.out) (fun _ hk=>hk);(try simp only [show ((Kd.slice 3 (Kd.int .i64))).sz=1 from rfl,Nat.mul_one,Nat.add_zero] at HP17);clear hcc17 hfr17)|((with_reducible refine gate_store (t:=23) (p:=23) rfl ?_);refine store_event (t:=23) (p:=23) (v:=?vo_w18) (w1:=(w16.setCell ⟨go15,(0:Int).toNat,none⟩ (.slice Ao19 y347.length co19))) ?hg ?ho ?hn ?hr ?_;(case ho=>rfl);(case hg=>rfl);(case hn=>rfl);(case hr=>first|(go_simp;done)|(go_simp;rfl));intro w18 hw;have hg:w16.grownBy w18 (some go15):=(by rw [hw];exact HP17.2);have hp_:Kd.S (Kd.slice 3 (Kd.int .i64)) 23 w18 w.heap.size (fun _=>True) (.slice (some ⟨go15,0,none⟩) t338.length co13) y350:=(by rw [hw,Ny350.out];exact HP17.1);clear HP17;replace HI0:=aM (IsS89.grown (by repeat (first|(with_reducible first|exact HI0.out|apply IsS89.alloc|apply IsS89.drewN|apply IsS89.drew|apply IsS89.set_1|apply IsS89.set_2)|exact HI0.out)) hg (IsS89.own_ne HI0.out hraw17 (by decide)));replace HB:=aM ((by rw [hw];exact below_set HB.out (Nat.le_trans HL.out GB15.out):Below w0.heap.size w0 w18));replace HK:=aM (KeepBut.trans (by repeat (first|(with_reducible first|exact HK.out|apply KeepBut.set_|apply keep_drewN|apply keep_drew|apply keep_alloc)|exact HK.out)) (KeepBut.of_grown hg g) (Kd.R_base2 hraw17));have HO340:=aM (hp_);clear HO349 HH15 hg hw hp_ hraw17));go_ret;exact ⟨_,by first|rfl|(simp [errW_none,errW_some]<;>rfl)|(simp [*,errW_none,errW_some]<;>rfl),by (with_reducible repeat (first|apply Kd.S_alloc|apply Kd.S_drewN|apply Kd.S_drew));exact HO340.out,by repeat (first|(with_reducible first|exact HI0.out|apply IsS89.alloc|apply IsS89.drewN|apply IsS89.drew|apply IsS89.set_1|apply IsS89.set_2)|exact HI0.out),by repeat (first|(with_reducible first|exact HB.out|apply below_alloc|apply pw_below_drewN|apply below_drew1|refine below_set ?_ (IsS89.ge HI0.out))|exact HB.out),by repeat (first|(with_reducible first|exact HK.out|apply KeepBut.set_|apply keep_drewN|apply keep_drew|apply keep_alloc)|exact HK.out)⟩
   ·rw [if_neg c10] at H;exact absurd H (by simp)
  ·rw [if_neg c8] at H;have c8b0:(t343 == 0)=false:=beq_eq_false_iff_ne.mpr c8;have c8b1:(t343 != 0)=true:=bne_iff_ne.mpr c8;by_cases c20:t343=1
   ·rw [if_pos c20] at H;have c20b0:(t343 == 1)=true:=beq_iff_eq.mpr c20;have c20b1:(t343 != 1)=false:=bne_eq_false_iff_eq.mpr c20;clear c20;obtain ⟨c21b0,H⟩:=iN H;have c21:=of_decide_eq_true c21b0;have c21b1:decide (0<t338.length)=true:=decide_eq_true (by omega);clear c21;obtain ⟨y352,hy352⟩:∃y_:List Int,y_=(([3,(-3),9223372036854775807]:List Int)):=⟨_,rfl⟩;replace H:((spec_l1Int.f s0_0 t344 t345 y352).bind fun bt355=>(if 0<((rd_L1 t338 0).length:Int) then (some ((t338.set (0:Int).toNat ((rd_L1 t338 0).set (0:Int).toNat bt355.1)),bt355.2.1,bt355.2.2)) else (none)))=some (r1,r2,r3):=(by first|(rw [hy352];with_reducible exact H)|(have H2_:=(Option.bind_some _ _).symm.trans H;rw [hy352];with_reducible exact H2_)|(have H2_:=(Option.bind_some _ _).symm.trans H;with_reducible exact H2_)|with_reducible exact H|(rw [hy352];exact H)|exact H);have Ny352:=aM hy352;clear hy352;obtain ⟨⟨t355,t356,t357⟩,A22,H⟩:=bz H;dsimp only at H;obtain ⟨c23b0,H⟩:=iN H;have c23:=of_decide_eq_true c23b0;have c23b1:decide (0<(rd_L1 t338 0).length)=true:=decide_eq_true (by omega);clear c23;obtain ⟨y358,hy358⟩:∃y_:List Int,y_=((rd_L1 t338 0).set (0:Int).toNat t355):=⟨_,rfl⟩;replace H:(some ((t338.set (0:Int).toNat y358),t356,t357))=some (r1,r2,r3):=(by first|(rw [hy358];with_reducible exact H)|(have H2_:=(Option.bind_some _ _).symm.trans H;rw [hy358];with_reducible exact H2_)|(have H2_:=(Option.bind_some _ _).symm.trans H;with_reducible exact H2_)|with_reducible exact H|(rw [hy358];exact H)|exact H);have Ny358:=aM hy358;clear hy358;obtain ⟨y360,hy360⟩:∃y_:List (List Int),y_=(t338.set (0:Int).toNat y358):=⟨_,rfl⟩;replace H:(some (y360,t356,t357))=some (r1,r2,r3):=(by first|(rw [hy360];with_reducible exact H)|(have H2_:=(Option.bind_some _ _).symm.trans H;rw [hy360];with_reducible exact H2_)|(have H2_:=(Option.bind_some _ _).symm.trans H;with_reducible exact H2_)|with_reducible exact H|(rw [hy360];exact H)|exact H);have Ny360:=aM hy360;clear hy360;simp only [Option.some.injEq,Prod.mk.injEq] at H;obtain ⟨rfl,rfl,rfl⟩:=H;go_enter Try.func100,Try.ntmps100;(try go_wp2_with (first|((with_reducible refine gate_callee (f:=112) rfl ?_);refine gm (some 8) Try.func112 #[.pointer (some ⟨g,0,none⟩),.int .i64 a1] ?_;(with_reducible refine (spec_l5Draw.calls k g s0_0 s0_1 s0_2 a1 t338 t341 t342 w0 _ ?side1 ?side2 A3.out).mono ?_);(case side1=>repeat (first|(with_reducible first|exact HI0.out|apply IsS89.alloc|apply IsS89.drewN|apply IsS89.drew|apply IsS89.set_1|apply IsS89.set_2)|exact HI0.out));(case side2=>repeat (first|(with_reducible first|exact HB.out|apply below_alloc|apply pw_below_drewN|apply below_drew1|refine below_set ?_ (IsS89.ge HI0.out))|exact HB.out));rintro e w25 ⟨v339,rfl,ho0,hi,hb,hk⟩;refine ⟨_,rfl,?_⟩;have HO340:=aM (Kd.S_lower ho0 (keep_size (w:=w) (g:=g) (row:=none) (by repeat (first|(with_reducible first|exact HK.out|apply KeepBut.set_|apply keep_drewN|apply keep_drew|apply keep_alloc)|exact HK.out))));replace HK:=aM (KeepBut.trans (by repeat (first|(with_reducible first|exact HK.out|apply KeepBut.set_|apply keep_drewN|apply keep_drew|apply keep_alloc)|exact HK.out)) hk (.inl rfl));replace HB:=aM (hb);replace HI0:=aM (hi);(try clear hb);(try clear hb2);(try clear hk);(try clear hi);(try clear ho0);obtain ⟨Ao26,co26,eo26⟩:=Kd.S_slice HO340.out;subst eo26)|((with_reducible refine gate_callee (f:=63) rfl ?_);refine gm (some 14) Try.func63 #[.pointer (some ⟨g,0,none⟩),.int .i64 9] ?_;(with_reducible refine (spec_l1Below.calls g s0_0 t341 t342 9 t343 t344 t345 w0 _ ?side1 ?side2 A7.out).mono ?_);(case side1=>repeat (first|(with_reducible first|exact HI0.out|apply IsS89.alloc|apply IsS89.drewN|apply IsS89.drew|apply IsS89.set_1|apply IsS89.set_2)|exact HI0.out));(case side2=>repeat (first|(with_reducible first|exact HB.out|apply below_alloc|apply pw_below_drewN|apply below_drew1|refine below_set ?_ (IsS89.ge HI0.out))|exact HB.out));rintro e w27 ⟨rfl,hi,hb,hk⟩;refine ⟨_,rfl,?_⟩;replace HO340:=aM (Kd.S_mono (Kd.S_keep (IsS89.apartS (show IsS89 w0 _ g s0_0 t341 t342 from by repeat (first|(with_reducible first|exact HI0.out|apply IsS89.alloc|apply IsS89.drewN|apply IsS89.drew|apply IsS89.set_1|apply IsS89.set_2)|exact HI0.out)) (by (with_reducible repeat (first|apply Kd.S_alloc|apply Kd.S_drewN|apply Kd.S_drew));exact HO340.out) (by decide)) hk (fun _ h=>h.2)) (fun _ h=>h.1));replace HK:=aM (KeepBut.trans (by repeat (first|(with_reducible first|exact HK.out|apply KeepBut.set_|apply keep_drewN|apply keep_drew|apply keep_alloc)|exact HK.out)) hk (.inl rfl));replace HB:=aM (hb);replace HI0:=aM (hi);(try clear hb);(try clear hb2);(try clear hk);(try clear hi))));replace HO340:=aM (Kd.S_drew HO340.out);replace HI0:=aM (IsS89.drew HI0.out);replace HK:=aM (keep_drew HK.out);replace HB:=aM (below_drew1 HB.out);have p351:0≤(0:Int):=(by omega);have q351:0<(t338.length:Int):=zd;obtain ⟨ad351,A351_0,c351_0,e351,hx351_0,hl351_0,hi351_0⟩:=at_L1 (Kd.S_reads' HO340.out).2.2 0 p351 q351;cases e351;obtain ⟨ce351,hce351,hMe351,hcc351⟩:=Kd.S_get HO340.out [] 0 p351 (by first|exact q351|exact zd|(have e_:=(Kd.S_reads' HO340.out).1;omega));obtain ⟨ve351_0,rfl,ge351_0⟩:=hMe351;have hv351_0:=hcc351 0 _ rfl;rw [Nat.add_zero,show ((Kd.slice 3 (Kd.int .i64))).sz=1 from rfl,Nat.mul_one] at hv351_0;replace hv351_0:=Option.some.inj (hv351_0.symm.trans hx351_0);rw [hv351_0] at ge351_0;have HL351_0:=aM (show Kd.R (Kd.int .i64) 3 _ _ _ _ (rd_L1 t338 0) from ge351_0);clear hv351_0 ge351_0;have HX351_0:=aM hx351_0;clear hcc351 hce351;have qi351:(0<t338.length)=True:=eq_true (by omega);(try rw [show ((0:Int)).toNat=0 from rfl] at hx351_0);(try rw [Addr.add_zero'] at hx351_0);have HR351_0:=aM hi351_0;have HC351_0:=aM hl351_0;clear hi351_0 hl351_0;replace p351:=eq_true p351;replace q351:=eq_true q351;refine start_ (n:=8) (S:=fun w'=>w'.cell? ad351=some (.slice A351_0 (rd_L1 t338 0).length c351_0)) (ds:=[7]) #[ff,ff,ff,ff,ff,ff,ff,ff] (by kernel_rfl) rfl rfl (hx351_0) (fun hHeld=>?_);refine with_tabW spec_l5Any.tab8 spec_l5Any.bits8 (fun HT_ HW_=>?_);generalize w27.drew=w28 at HO340 HI0 HK HB HL351_0 HR351_0 HX351_0 hx351_0 hHeld ⊢;refine pu 0 (some 26) #[tt,ff,ff,ff,ff,ff,ff,ff] rfl rfl HT_ ?_;refine pu 1 (some 27) #[tt,tt,ff,ff,ff,ff,ff,ff] rfl rfl HT_ ?_;refine pu 3 (some 29) #[tt,tt,ff,tt,ff,ff,ff,ff] rfl rfl HT_ ?_;refine take_ (i:=2) (N:=some 28) (v:=?_) (a':=?_) #[tt,tt,tt,tt,ff,ff,ff,ff] rfl rfl (take_ofW HT_.out HW_.out (by kernel_rfl)) (fun _ _ _ h=>h) (Or.inl ⟨by rfl,?_⟩) hHeld ?_ ?_;rotate_left
    ·intro w' s0;go_simp;(with_reducible rfl)
    rotate_left
    ·simp only [Act.put,qa,qz,qs,i64_w,i32_w];rfl
    refine one_ (i:=4) (N:=some 30) #[tt,tt,tt,tt,tt,ff,ff,ff] rfl rfl (one_of HT_.out (by kernel_rfl)) (by decide) (fun K hK=>?_);refine Kd.R_lit_step (Kd.int .i64) _ 3 ?hg (N:=30) ?hd (xs:=([3,(-3),9223372036854775807]:List Int)) (inner:=[.int .i64 3,.int .i64 (-3),.int .i64 9223372036854775807]) (ok:=fun _=>True) (okp:=fun _=>True) ?hr ?hp (fun _ hk=>hk) trivial (Below.refl _ _) (Nat.le_refl _) (by simp) ?_;(case hd=>rfl);(case hg=>rfl);(case hr=>first|(go_simp;done)|(go_simp;rfl));(case hp=>exact (Reps.one (show Kd.M (Kd.int .i64) _ _ _ 3 [.int .i64 3] from rfl) (Reps.one (show Kd.M (Kd.int .i64) _ _ _ (-3) [.int .i64 (-3)] from rfl) (Reps.one (show Kd.M (Kd.int .i64) _ _ _ 9223372036854775807 [.int .i64 9223372036854775807] from rfl) (Reps.none _ _)))));intro v353 w29 ho30 hb hg_ hnew_;have HS0_:=(hb.cell (World.block_lt_of_cell? _ _ (hHeld))).trans (hHeld);clear hg_ hnew_;(first|rw [← Ny352.out] at ho30|(simp only [Int.reduceToNat] at ho30;rw [← Ny352.out] at ho30));replace HO340:=aM (Kd.S_elder' (by (with_reducible repeat (first|apply Kd.S_alloc|apply Kd.S_drewN|apply Kd.S_drew));exact HO340.out) (Kd.R_base ho30) hb);have HO354:=aM (Kd.R_lower (Kd.R_new' ho30 (Kd.R_lt (zr HL351_0.out))) (keep_size (w:=w) (g:=g) (row:=none) (by repeat (first|(with_reducible first|exact HK.out|apply KeepBut.set_|apply keep_drewN|apply keep_drew|apply keep_alloc)|exact HK.out))));replace HL351_0:=aM (Kd.R_elder' (zr HL351_0.out) (Kd.R_base ho30) hb);replace HR351_0:=aM (Kd.C_below (zc HR351_0.out) hb);replace HX351_0:=aM (pw_cell_below hb HX351_0.out);replace HK:=aM (KeepBut.trans (by repeat (first|(with_reducible first|exact HK.out|apply KeepBut.set_|apply keep_drewN|apply keep_drew|apply keep_alloc)|exact HK.out)) (KeepBut.of_below hb g none) (.inl rfl));replace HB:=aM (below_step (by repeat (first|(with_reducible first|exact HB.out|apply below_alloc|apply pw_below_drewN|apply below_drew1|refine below_set ?_ (IsS89.ge HI0.out))|exact HB.out)) hb);replace HI0:=aM (IsS89.below (by repeat (first|(with_reducible first|exact HI0.out|apply IsS89.alloc|apply IsS89.drewN|apply IsS89.drew|apply IsS89.set_1|apply IsS89.set_2)|exact HI0.out)) hb);clear hb ho30;obtain ⟨Ao31,co31,eo31⟩:=Kd.R_slice HO354.out;(first|subst eo31|(injection eo31 with f1_ f2_ f3_;have f4_:=f1_.symm;have f5_:=f3_.symm;clear f1_ f2_ f3_;subst f4_;subst f5_));refine hK.out _ _ (HS0_) (fun hHeld=>?_);clear hK K;refine norm_ (a':=?_) ?_ ?_;rotate_left
    ·show Act.put _ (some 30) _=_;simp only [Act.put,qa,qz,qs,i64_w,i32_w];rfl
    refine one_ (i:=5) (N:=some 31) #[tt,tt,tt,tt,tt,tt,ff,ff] rfl rfl (one_of HT_.out (by kernel_rfl)) (by decide) (fun K hK=>?_);refine gs Try.func101 #[.pointer (some ⟨g,0,none⟩),.slice Ao31 y352.length co31] ?_;(with_reducible refine (spec_l1Int.calls g s0_0 t344 t345 _ _ y352 t355 t356 t357 w0 _ ?side1 ?side2 ?side3 ?side4 ?side5 A22.out).mono ?_);(case side1=>repeat (first|(with_reducible first|exact HI0.out|apply IsS89.alloc|apply IsS89.drewN|apply IsS89.drew|apply IsS89.set_1|apply IsS89.set_2)|exact HI0.out));(case side2=>repeat (first|(with_reducible first|exact HB.out|apply below_alloc|apply pw_below_drewN|apply below_drew1|refine below_set ?_ (IsS89.ge HI0.out))|exact HB.out));(case side3=>exact zc (Kd.R_reads' HO354.out).2.2);(case side4=>exact (Kd.R_reads' HO354.out).2.1);(case side5=>exact far_slice (IsS89.own_ne HI0.out HO354.out (by decide)));rintro e w32 ⟨rfl,hi,hb,hk⟩;have HS0_:=keep_cell hk (hHeld) (by first|(rw [add_block];exact Kd.own_blk (IsS89.own_neS HI0.out HO340.out (by decide)))|(show (Addr.add _ _).block≠_;rw [add_block];exact Kd.own_blk (IsS89.own_neS HI0.out HO340.out (by decide)))|exact Kd.own_blk (IsS89.own_neS HI0.out HO340.out (by decide)));refine ⟨_,rfl,?_⟩;replace HL351_0:=aM (Kd.R_mono (Kd.R_keep (IsS89.apart (show IsS89 w0 _ g s0_0 t344 t345 from by repeat (first|(with_reducible first|exact HI0.out|apply IsS89.alloc|apply IsS89.drewN|apply IsS89.drew|apply IsS89.set_1|apply IsS89.set_2)|exact HI0.out)) (zr HL351_0.out) (by decide)) hk (fun _ h=>h.2)) (fun _ h=>h.1));replace HX351_0:=aM (keep_cell hk HX351_0.out (by first|(rw [add_block];exact Kd.own_blk (IsS89.own_neS HI0.out HO340.out (by decide)))|(show (Addr.add _ _).block≠_;rw [add_block];exact Kd.own_blk (IsS89.own_neS HI0.out HO340.out (by decide)))|exact Kd.own_blk (IsS89.own_neS HI0.out HO340.out (by decide))|(dsimp only;exact Kd.own_blk (IsS89.own_neS HI0.out HO340.out (by decide)))));replace HO340:=aM (Kd.S_mono (Kd.S_keep (IsS89.apartS (show IsS89 w0 _ g s0_0 t344 t345 from by repeat (first|(with_reducible first|exact HI0.out|apply IsS89.alloc|apply IsS89.drewN|apply IsS89.drew|apply IsS89.set_1|apply IsS89.set_2)|exact HI0.out)) (by (with_reducible repeat (first|apply Kd.S_alloc|apply Kd.S_drewN|apply Kd.S_drew));exact HO340.out) (by decide)) hk (fun _ h=>h.2)) (fun _ h=>h.1));replace HO354:=aM (Kd.R_mono (Kd.R_keep (IsS89.apart (show IsS89 w0 _ g s0_0 t344 t345 from by repeat (first|(with_reducible first|exact HI0.out|apply IsS89.alloc|apply IsS89.drewN|apply IsS89.drew|apply IsS89.set_1|apply IsS89.set_2)|exact HI0.out)) (zr HO354.out) (by decide)) hk (fun _ h=>h.2)) (fun _ h=>h.1));replace HK:=aM (KeepBut.trans (by repeat (first|(with_reducible first|exact HK.out|apply KeepBut.set_|apply keep_drewN|apply keep_drew|apply keep_alloc)|exact HK.out)) hk (.inl rfl));replace HB:=aM (hb);replace HI0:=aM (hi);(try clear hb);(try clear hb2);(try clear hk);(try clear hi);have p24:0≤(0:Int):=(by omega);have q24:(0:Int)<(((rd_L1 t338 0).length:Int):Int):=zd;have qi24:(0<(rd_L1 t338 0).length)=True:=eq_true (by omega);obtain ⟨go24,co24,eo24,gb24,gl24,cl24,HG24⟩:=Kd.R_form HL351_0.out (by omega);(first|cases eo24|(injection eo24 with ea_ en_ ec_;(first|subst ea_|(injection ea_ with ea_;subst ea_));subst ec_;clear en_));have GB24:=aM gb24;have GG24:=aM HG24;clear gb24 gl24 HG24;obtain ⟨hx24_0,hf24_0⟩:=Kd.R_celln 0 HL351_0.out (0:Int) p24 q24;(try rw [show ((0:Int)).toNat=0 from rfl] at hx24_0);(try simp only [Nat.reduceMul,Nat.zero_mul,Nat.zero_add,Nat.reduceAdd] at hx24_0);(try rw [show ((0:Int)).toNat=0 from rfl] at hf24_0);(try simp only [Nat.reduceMul,Nat.zero_mul,Nat.zero_add,Nat.reduceAdd] at hf24_0);replace p24:=eq_true p24;replace q24:=eq_true q24;have n_:=aM (Kd.S_mono (ok':=(fun k_=>some k_≠(.slice Ao31 y352.length co31:Value).ownBlock)) HO340.out (fun k_ hk=>hk.2));clear HO340;have HO340:=n_;clear n_;have hq33:(0:Int)<(t338.length:Int):=(by have h_:(0:Int)<((t338.length:Int):Int):=zd;first|exact h_|(have e_:=(Kd.S_reads' HO340.out).1;omega)|simpa only [List.length_set,List.length_set] using h_);obtain ⟨oki33,ce33,hcl33,hM33,hcc33,hok33,hbk33⟩:=Kd.S_borrow HO340.out [] (0:Int) (by omega) hq33;obtain ⟨ve33_0,rfl,ge33_0⟩:=hM33;have hv33:=hcc33 0 _ rfl;rw [Nat.add_zero,show ((Kd.slice 3 (Kd.int .i64))).sz=1 from rfl,Nat.mul_one] at hv33;replace hv33:=Option.some.inj (hv33.symm.trans HX351_0.out);subst hv33;clear hcc33 hcl33;replace ge33_0:=(show Kd.R (Kd.int .i64) 3 _ _ _ _ (rd_L1 t338 0) from ge33_0);have HP33:=Kd.R_putg ge33_0 (0:Int) t355;have HN0_go24:=aM (show g≠go24 from by have h_:=IsS89.own_ne HI0.out HL351_0.out (by decide);intro e_;exact h_ (by rw [e_];rfl));rw [← Ny358.out] at HP33;have HS33:=hbk33 HP33.2 (fun k_ e_=>by injection e_ with e_;subst e_;exact ge33_0.1 _ rfl) (x':=y358) (Kd.M_row HP33.1);rw [← Ny360.out] at HS33;have HQ33:=aM HS33;clear HP33 HS33 hbk33 hok33;refine hK.out _ _ (HS0_) (fun hHeld=>?_);clear hK K;refine norm_ (a':=?_) ?_ ?_;rotate_left
    ·show Act.put _ (some 31) _=_;simp only [Act.put,qa,qz,qs,i64_w,i32_w];rfl
    refine pu 6 (some 32) #[tt,tt,tt,tt,tt,tt,tt,ff] rfl rfl HT_ ?_;refine last_ (i:=7) (N:=none) #[tt,tt,tt,tt,tt,tt,tt,tt] rfl rfl (one_of HT_.out (by kernel_rfl)) (by decide) (fun K hK=>?_);refine skip_ (w1:=?_) (by rfl) rfl ?_ ?_;rotate_left
    ·go_simp;rfl
    refine hK.out _ _ ?_;clear hK K;refine done_ (done_of HT_.out (by kernel_rfl)) ?_;(try go_wp2);go_ret;exact ⟨_,by first|rfl|(simp [errW_none,errW_some]<;>rfl)|(simp [*,errW_none,errW_some]<;>rfl),by (with_reducible repeat (first|apply Kd.S_alloc|apply Kd.S_drewN|apply Kd.S_drew));exact Kd.S_mono HQ33.out (fun _ hk=>trivial),by repeat (first|(with_reducible first|exact HI0.out|apply IsS89.alloc|apply IsS89.drewN|apply IsS89.drew|apply IsS89.set_1|apply IsS89.set_2|refine IsS89.far ?_ HN0_go24.out _)|exact HI0.out),by repeat (first|(with_reducible first|exact HB.out|apply below_alloc|apply pw_below_drewN|apply below_drew1|refine below_set ?_ (Nat.le_trans HL.out GB24.out)|refine below_set ?_ (IsS89.ge HI0.out))|exact HB.out),by repeat (first|(with_reducible first|exact HK.out|apply KeepBut.set_|apply keep_drewN|apply keep_drew|apply keep_alloc|refine keep_far ?_ GB24.out _)|exact HK.out)⟩
   ·rw [if_neg c20] at H;have c20b0:(t343 == 1)=false:=beq_eq_false_iff_ne.mpr c20;have c20b1:(t343 != 1)=true:=bne_iff_ne.mpr c20;by_cases c35:t343=2
    ·rw [if_pos c35] at H;have c35b0:(t343 == 2)=true:=beq_iff_eq.mpr c35;have c35b1:(t343 != 2)=false:=bne_eq_false_iff_eq.mpr c35;clear c35;have H':=aM H;clear H;go_enter Try.func100,Try.ntmps100;go_wp2_with (first|((with_reducible refine gate_callee (f:=112) rfl ?_);refine gm (some 8) Try.func112 #[.pointer (some ⟨g,0,none⟩),.int .i64 a1] ?_;(with_reducible refine (spec_l5Draw.calls k g s0_0 s0_1 s0_2 a1 t338 t341 t342 w0 _ ?side1 ?side2 A3.out).mono ?_);(case side1=>repeat (first|(with_reducible first|exact HI0.out|apply IsS89.alloc|apply IsS89.drewN|apply IsS89.drew|apply IsS89.set_1|apply IsS89.set_2)|exact HI0.out));(case side2=>repeat (first|(with_reducible first|exact HB.out|apply below_alloc|apply pw_below_drewN|apply below_drew1|refine below_set ?_ (IsS89.ge HI0.out))|exact HB.out));rintro e w36 ⟨v339,rfl,ho0,hi,hb,hk⟩;refine ⟨_,rfl,?_⟩;have HO340:=aM (Kd.S_lower ho0 (keep_size (w:=w) (g:=g) (row:=none) (by repeat (first|(with_reducible first|exact HK.out|apply KeepBut.set_|apply keep_drewN|apply keep_drew|apply keep_alloc)|exact HK.out))));replace HK:=aM (KeepBut.trans (by repeat (first|(with_reducible first|exact HK.out|apply KeepBut.set_|apply keep_drewN|apply keep_drew|apply keep_alloc)|exact HK.out)) hk (.inl rfl));replace HB:=aM (hb);replace HI0:=aM (hi);(try clear hb);(try clear hb2);(try clear hk);(try clear hi);(try clear ho0);obtain ⟨Ao37,co37,eo37⟩:=Kd.S_slice HO340.out;subst eo37)|((with_reducible refine gate_callee (f:=63) rfl ?_);refine gm (some 14) Try.func63 #[.pointer (some ⟨g,0,none⟩),.int .i64 9] ?_;(with_reducible refine (spec_l1Below.calls g s0_0 t341 t342 9 t343 t344 t345 w0 _ ?side1 ?side2 A7.out).mono ?_);(case side1=>repeat (first|(with_reducible first|exact HI0.out|apply IsS89.alloc|apply IsS89.drewN|apply IsS89.drew|apply IsS89.set_1|apply IsS89.set_2)|exact HI0.out));(case side2=>repeat (first|(with_reducible first|exact HB.out|apply below_alloc|apply pw_below_drewN|apply below_drew1|refine below_set ?_ (IsS89.ge HI0.out))|exact HB.out));rintro e w38 ⟨rfl,hi,hb,hk⟩;refine ⟨_,rfl,?_⟩;replace HO340:=aM (Kd.S_mono (Kd.S_keep (IsS89.apartS (show IsS89 w0 _ g s0_0 t341 t342 from by repeat (first|(with_reducible first|exact HI0.out|apply IsS89.alloc|apply IsS89.drewN|apply IsS89.drew|apply IsS89.set_1|apply IsS89.set_2)|exact HI0.out)) (by (with_reducible repeat (first|apply Kd.S_alloc|apply Kd.S_drewN|apply Kd.S_drew));exact HO340.out) (by decide)) hk (fun _ h=>h.2)) (fun _ h=>h.1));replace HK:=aM (KeepBut.trans (by repeat (first|(with_reducible first|exact HK.out|apply KeepBut.set_|apply keep_drewN|apply keep_drew|apply keep_alloc)|exact HK.out)) hk (.inl rfl));replace HB:=aM (hb);replace HI0:=aM (hi);(try clear hb);(try clear hb2);(try clear hk);(try clear hi)));go_loopg [5] k (fun kq v5 w'=>∃(x5_1:List (List Int)) (x1001_1:Int) (x1002_1:Int),Aside0 (spec_l5Any.l0 kq a1 x5_1 s0_0 x1001_1 x1002_1=some (r1,r2,r3))∧Aside0 (kq≤k)∧Aside0 (Kd.S (Kd.slice 3 (Kd.int .i64)) 23 w' w.heap.size (fun _=>True) v5 x5_1)∧Aside0 (IsS89 w0 w' g s0_0 x1001_1 x1002_1)∧Aside0 (KeepBut w w' g none)∧Aside0 (Below w0.heap.size w0 w'));(case atStart=>exact ⟨(t338),(t344),(t345),H',⟨Nat.le_refl _⟩,⟨by (with_reducible repeat (first|apply Kd.S_alloc|apply Kd.S_drewN|apply Kd.S_drew));exact HO340.out⟩,⟨by repeat (first|(with_reducible first|exact HI0.out|apply IsS89.alloc|apply IsS89.drewN|apply IsS89.drew|apply IsS89.set_1|apply IsS89.set_2)|exact HI0.out)⟩,⟨by repeat (first|(with_reducible first|exact HK.out|apply KeepBut.set_|apply keep_drewN|apply keep_drew|apply keep_alloc)|exact HK.out)⟩,⟨by repeat (first|(with_reducible first|exact HB.out|apply below_alloc|apply pw_below_drewN|apply below_drew1|refine below_set ?_ (IsS89.ge HI0.out))|exact HB.out)⟩⟩)
     case round=>
      clear H';(try clear c1);(try clear p1);(try clear q1);(try clear hx1);(try clear c2);(try clear p2);(try clear q2);(try clear hx2);(try clear qi2);(try clear hf2);(try clear c3);(try clear p3);(try clear q3);(try clear hx3);(try clear qi3);(try clear c4);(try clear c4b0);(try clear c4b1);(try clear c4b2);(try clear c6);(try clear c8);(try clear c8b0);(try clear c8b1);(try clear c9);(try clear c9b0);(try clear c9b1);(try clear c10);(try clear c11);(try clear p11);(try clear q11);(try clear c15);(try clear c17);(try clear hx17);(try clear hf17);(try clear c20);(try clear c20b0);(try clear c20b1);(try clear c21);(try clear c21b0);(try clear c21b1);(try clear c23);(try clear c23b0);(try clear c23b1);(try clear p24);(try clear q24);(try clear hx24);(try clear qi24);(try clear hf24);(try clear c33);(try clear q33);(try clear c34);(try clear p34);(try clear q34);(try clear hx34);(try clear qi34);(try clear c35);(try clear c35b0);(try clear c35b1);(try clear p35);(try clear q35);(try clear hx35);(try clear qi35);(try clear hx17_0);(try clear hx24_0);(try clear hx346_0);(try clear hx351_0);(try clear p11);(try clear p24);(try clear p346);(try clear p351);(try clear q11);(try clear q24);(try clear q346);(try clear q351);obtain ⟨x5_1,x1001_1,x1002_1,HA,HK1,HO_5,HI0,HK,HB⟩:=hrel;cases gk with
      | zero=>exact absurd HA.out (by simp [spec_l5Any.l0])
      | succ k1=>
       have H:=HA.out;clear HA;simp only [spec_l5Any.l0] at H;by_cases c39:(x5_1.length:Int)<13
       ·rw [if_pos c39] at H;have c39b0:decide ((x5_1.length:Int)<13)=true:=decide_eq_true c39;have c39b1:decide (x5_1.length<13)=true:=decide_eq_true (by omega);clear c39;obtain ⟨⟨t361,t364,t365⟩,A40,H⟩:=bz H;dsimp only at H;by_cases c41:x5_1.length<5864062014805
        ·rw [if_pos c41] at H;have LMc41:=aM c41;clear c41;obtain ⟨y366,hy366⟩:∃y_:List (List Int),y_=(x5_1 ++ [t361]):=⟨_,rfl⟩;replace H:(spec_l5Any.l0 k1 a1 y366 s0_0 t364 t365)=some (r1,r2,r3):=(by first|(rw [hy366];with_reducible exact H)|(have H2_:=(Option.bind_some _ _).symm.trans H;rw [hy366];with_reducible exact H2_)|(have H2_:=(Option.bind_some _ _).symm.trans H;with_reducible exact H2_)|with_reducible exact H|(rw [hy366];exact H)|exact H);have Ny366:=aM hy366;clear hy366;have H':=aM H;clear H;obtain ⟨Ao42,co42,eo42⟩:=Kd.S_slice HO_5.out;subst eo42;go_wp2_with (first|((with_reducible refine gate_callee (f:=67) rfl ?_);refine gm (some 41) Try.func67 #[.pointer (some ⟨g,0,none⟩),.int .i64 a1] ?_;(with_reducible refine (spec_l5Row.calls k1 g s0_0 x1001_1 x1002_1 a1 t361 t364 t365 w0 _ ?side1 ?side2 A40.out).mono ?_);(case side1=>repeat (first|(with_reducible first|exact HI0.out|apply IsS89.alloc|apply IsS89.drewN|apply IsS89.drew|apply IsS89.set_1|apply IsS89.set_2)|exact HI0.out));(case side2=>repeat (first|(with_reducible first|exact HB.out|apply below_alloc|apply pw_below_drewN|apply below_drew1|refine below_set ?_ (IsS89.ge HI0.out))|exact HB.out));rintro e w43 ⟨v362,rfl,ho0,hi,hb,hk⟩;refine ⟨_,rfl,?_⟩;replace HO_5:=aM (Kd.S_mono (Kd.S_told (Kd.S_oldK (IsS89.apartS (show IsS89 w0 _ g s0_0 x1001_1 x1002_1 from by repeat (first|(with_reducible first|exact HI0.out|apply IsS89.alloc|apply IsS89.drewN|apply IsS89.drew|apply IsS89.set_1|apply IsS89.set_2)|exact HI0.out)) (by (with_reducible repeat (first|apply Kd.S_alloc|apply Kd.S_drewN|apply Kd.S_drew));exact HO_5.out) (by decide)) hk) (Kd.R_base ho0)) (fun _ h_=>h_.1));have HO363:=aM (Kd.R_lower ho0 (keep_size (w:=w) (g:=g) (row:=none) (by repeat (first|(with_reducible first|exact HK.out|apply KeepBut.set_|apply keep_drewN|apply keep_drew|apply keep_alloc)|exact HK.out))));replace HK:=aM (KeepBut.trans (by repeat (first|(with_reducible first|exact HK.out|apply KeepBut.set_|apply keep_drewN|apply keep_drew|apply keep_alloc)|exact HK.out)) hk (.inl rfl));replace HB:=aM (hb);replace HI0:=aM (hi);(try clear hb);(try clear hb2);(try clear hk);(try clear hi);(try clear ho0);obtain ⟨Ao45,co45,eo45⟩:=Kd.R_slice HO363.out;subst eo45)|((with_reducible refine gate_builtin (b:=.append) (xs:=#[.tmp 38,.tmp 42]) rfl ?_);at_builtin;refine Kd.S_append (Kd.slice 3 (Kd.int .i64)) w.heap.size rfl (.tmp 38) (.tmp 42) 22 23 (.slice none 0 0) 24 rfl Try.underlying22 info23 rfl (by decide) (by omega) (.slice Ao42 x5_1.length co42) x5_1 t361 [.slice Ao45 t361.length co45] (fun _=>True) (fun k_=>some k_=(.slice Ao45 t361.length co45:Value).ownBlock) rfl rfl ?aP (fun k_ hk_=>((Kd.R_mono (ok':=fun k_=>((fun _=>True)) k_∧some k_≠(.slice Ao42 x5_1.length co42:Value).ownBlock) (Kd.R_apart' (HO363.out) (Kd.S_typed HO_5.out) (by decide)) (fun k_ hk=>⟨trivial,hk.2⟩))).1 k_ hk_.symm) ?aF ?aO (Below.refl _ _) ?aS ?aL ?_;(case aP=>exact Kd.M_row (Kd.R_mono (Kd.R_tight rfl (Kd.R_mono (ok':=fun k_=>((fun _=>True)) k_∧some k_≠(.slice Ao42 x5_1.length co42:Value).ownBlock) (Kd.R_apart' (HO363.out) (Kd.S_typed HO_5.out) (by decide)) (fun k_ hk=>⟨trivial,hk.2⟩))) (fun _ h_=>h_)));(case aF=>exact (fun _ _=>trivial));(case aO=>exact (by (with_reducible repeat (first|apply Kd.S_alloc|apply Kd.S_drewN|apply Kd.S_drew));exact Kd.S_mono HO_5.out (fun k_ hk=>⟨trivial,fun e_=>hk.2 e_⟩)));(case aS=>exact (keep_size (w:=w) (g:=g) (row:=none) (by repeat (first|(with_reducible first|exact HK.out|apply KeepBut.set_|apply keep_drewN|apply keep_drew|apply keep_alloc)|exact HK.out))));(case aL=>have:=LMc41.out;omega);intro v367 w44 ho hb hg hat;rw [← Ny366.out] at ho;replace HB:=aM (below_weaken (by repeat (first|(with_reducible first|exact HB.out|apply below_alloc|apply pw_below_drewN|apply below_drew1|refine below_set ?_ (IsS89.ge HI0.out))|exact HB.out)) HL.out hb);replace HI0:=aM (IsS89.grown (by repeat (first|(with_reducible first|exact HI0.out|apply IsS89.alloc|apply IsS89.drewN|apply IsS89.drew|apply IsS89.set_1|apply IsS89.set_2)|exact HI0.out)) hg (IsS89.own_neS HI0.out HO_5.out (by decide)));replace HK:=aM (KeepBut.trans (by repeat (first|(with_reducible first|exact HK.out|apply KeepBut.set_|apply keep_drewN|apply keep_drew|apply keep_alloc)|exact HK.out)) (KeepBut.of_grown hg g) (Kd.S_base2 HO_5.out));have HO368:=aM (ho);clear HO_5 HO363 ho hb hg hat));go_roundg k1;(case measure=>have:=HK1.out;omega);(case rel=>exact ⟨(y366),(t364),(t365),H',⟨by have:=HK1.out;omega⟩,⟨by (with_reducible repeat (first|apply Kd.S_alloc|apply Kd.S_drewN|apply Kd.S_drew));exact HO368.out⟩,⟨by repeat (first|(with_reducible first|exact HI0.out|apply IsS89.alloc|apply IsS89.drewN|apply IsS89.drew|apply IsS89.set_1|apply IsS89.set_2)|exact HI0.out)⟩,⟨by repeat (first|(with_reducible first|exact HK.out|apply KeepBut.set_|apply keep_drewN|apply keep_drew|apply keep_alloc)|exact HK.out)⟩,⟨by repeat (first|(with_reducible first|exact HB.out|apply below_alloc|apply pw_below_drewN|apply below_drew1|refine below_set ?_ (IsS89.ge HI0.out))|exact HB.out)⟩⟩)
        ·rw [if_neg c41] at H;exact absurd H (by simp)
       ·rw [if_neg c39] at H;have c39b0:decide ((x5_1.length:Int)<13)=false:=decide_eq_false c39;have c39b1:decide (x5_1.length<13)=false:=decide_eq_false (by omega);clear c39;simp only [Option.some.injEq,Prod.mk.injEq] at H;obtain ⟨rfl,rfl,rfl⟩:=H;obtain ⟨Ao46,co46,eo46⟩:=Kd.S_slice HO_5.out;subst eo46;go_wp2;go_ret;exact ⟨_,by first|rfl|(simp [errW_none,errW_some]<;>rfl)|(simp [*,errW_none,errW_some]<;>rfl),by (with_reducible repeat (first|apply Kd.S_alloc|apply Kd.S_drewN|apply Kd.S_drew));exact HO_5.out,by repeat (first|(with_reducible first|exact HI0.out|apply IsS89.alloc|apply IsS89.drewN|apply IsS89.drew|apply IsS89.set_1|apply IsS89.set_2)|exact HI0.out),by repeat (first|(with_reducible first|exact HB.out|apply below_alloc|apply pw_below_drewN|apply below_drew1|refine below_set ?_ (IsS89.ge HI0.out))|exact HB.out),by repeat (first|(with_reducible first|exact HK.out|apply KeepBut.set_|apply keep_drewN|apply keep_drew|apply keep_alloc)|exact HK.out)⟩
    ·rw [if_neg c35] at H;have c35b0:(t343 == 2)=false:=beq_eq_false_iff_ne.mpr c35;have c35b1:(t343 != 2)=true:=bne_iff_ne.mpr c35;simp only [Option.some.injEq,Prod.mk.injEq] at H;obtain ⟨rfl,rfl,rfl⟩:=H;go_enter Try.func100,Try.ntmps100;go_wp2_with (first|((with_reducible refine gate_callee (f:=112) rfl ?_);refine gm (some 8) Try.func112 #[.pointer (some ⟨g,0,none⟩),.int .i64 a1] ?_;(with_reducible refine (spec_l5Draw.calls k g s0_0 s0_1 s0_2 a1 t338 t341 t342 w0 _ ?side1 ?side2 A3.out).mono ?_);(case side1=>repeat (first|(with_reducible first|exact HI0.out|apply IsS89.alloc|apply IsS89.drewN|apply IsS89.drew|apply IsS89.set_1|apply IsS89.set_2)|exact HI0.out));(case side2=>repeat (first|(with_reducible first|exact HB.out|apply below_alloc|apply pw_below_drewN|apply below_drew1|refine below_set ?_ (IsS89.ge HI0.out))|exact HB.out));rintro e w47 ⟨v339,rfl,ho0,hi,hb,hk⟩;refine ⟨_,rfl,?_⟩;have HO340:=aM (Kd.S_lower ho0 (keep_size (w:=w) (g:=g) (row:=none) (by repeat (first|(with_reducible first|exact HK.out|apply KeepBut.set_|apply keep_drewN|apply keep_drew|apply keep_alloc)|exact HK.out))));replace HK:=aM (KeepBut.trans (by repeat (first|(with_reducible first|exact HK.out|apply KeepBut.set_|apply keep_drewN|apply keep_drew|apply keep_alloc)|exact HK.out)) hk (.inl rfl));replace HB:=aM (hb);replace HI0:=aM (hi);(try clear hb);(try clear hb2);(try clear hk);(try clear hi);(try clear ho0);obtain ⟨Ao48,co48,eo48⟩:=Kd.S_slice HO340.out;subst eo48)|((with_reducible refine gate_callee (f:=63) rfl ?_);refine gm (some 14) Try.func63 #[.pointer (some ⟨g,0,none⟩),.int .i64 9] ?_;(with_reducible refine (spec_l1Below.calls g s0_0 t341 t342 9 t343 t344 t345 w0 _ ?side1 ?side2 A7.out).mono ?_);(case side1=>repeat (first|(with_reducible first|exact HI0.out|apply IsS89.alloc|apply IsS89.drewN|apply IsS89.drew|apply IsS89.set_1|apply IsS89.set_2)|exact HI0.out));(case side2=>repeat (first|(with_reducible first|exact HB.out|apply below_alloc|apply pw_below_drewN|apply below_drew1|refine below_set ?_ (IsS89.ge HI0.out))|exact HB.out));rintro e w49 ⟨rfl,hi,hb,hk⟩;refine ⟨_,rfl,?_⟩;replace HO340:=aM (Kd.S_mono (Kd.S_keep (IsS89.apartS (show IsS89 w0 _ g s0_0 t341 t342 from by repeat (first|(with_reducible first|exact HI0.out|apply IsS89.alloc|apply IsS89.drewN|apply IsS89.drew|apply IsS89.set_1|apply IsS89.set_2)|exact HI0.out)) (by (with_reducible repeat (first|apply Kd.S_alloc|apply Kd.S_drewN|apply Kd.S_drew));exact HO340.out) (by decide)) hk (fun _ h=>h.2)) (fun _ h=>h.1));replace HK:=aM (KeepBut.trans (by repeat (first|(with_reducible first|exact HK.out|apply KeepBut.set_|apply keep_drewN|apply keep_drew|apply keep_alloc)|exact HK.out)) hk (.inl rfl));replace HB:=aM (hb);replace HI0:=aM (hi);(try clear hb);(try clear hb2);(try clear hk);(try clear hi)));go_ret;exact ⟨_,by first|rfl|(simp [errW_none,errW_some]<;>rfl)|(simp [*,errW_none,errW_some]<;>rfl),by (with_reducible repeat (first|apply Kd.S_alloc|apply Kd.S_drewN|apply Kd.S_drew));exact HO340.out,by repeat (first|(with_reducible first|exact HI0.out|apply IsS89.alloc|apply IsS89.drewN|apply IsS89.drew|apply IsS89.set_1|apply IsS89.set_2)|exact HI0.out),by repeat (first|(with_reducible first|exact HB.out|apply below_alloc|apply pw_below_drewN|apply below_drew1|refine below_set ?_ (IsS89.ge HI0.out))|exact HB.out),by repeat (first|(with_reducible first|exact HK.out|apply KeepBut.set_|apply keep_drewN|apply keep_drew|apply keep_alloc)|exact HK.out)⟩
def spec_Min.f (a0 : Int) (a1 : Int) : Option (Int) := if a1 < a0 then (some a1) else (some a0)
set_option maxHeartbeats 8000000 in
set_option maxRecDepth 100000 in
theorem spec_Min.calls (a0 : Int) (a1 : Int) (r : Int) (w : World) (h : spec_Min.f a0 a1 = some r) :
 Calls Try.prog 111 #[.int .i64 a0, .int .i64 a1] w fun e w' => e = .returned (.int .i64 r) ∧ Drawn0 w w' := by
 have H:(if a1<a0 then (some a1) else (some a0))=some r:=h;clear h;by_cases c3:a1<a0
 ·rw [if_pos c3] at H;have c3b0:decide (a1<a0)=true:=decide_eq_true c3;clear c3;obtain rfl:=Option.some.inj H;go_enter Try.func111,Try.ntmps111;go_wp2;go_ret;exact ⟨zt,zz⟩
 ·rw [if_neg c3] at H;have c3b0:decide (a1<a0)=false:=decide_eq_false c3;clear c3;obtain rfl:=Option.some.inj H;go_enter Try.func111,Try.ntmps111;go_wp2;go_ret;exact ⟨zt,zz⟩
end Go.Proofs.Ytojkepidkmkmpaa.PFnSpan
end
section
namespace Go.Proofs.Ytojkepidkmkmpaa.PFnSpan
open Go.Proofs.YtojkepidkmkmpaaW.PrintWords.Aside0 renaming mk → aM
open List renaming setIfInBounds_toArray → qa, set_cons_zero → qz, set_cons_succ → qs
open Bool renaming true → tt, false → ff
open Option renaming bind_eq_some_iff → bE

open Go.RowKit Go.Proofs.YtojkepidkmkmpaaW.PrintWords Go.Proofs.YtojkepidkmkmpaaW.PrintLast Go.Proofs.YtojkepidkmkmpaaW.PrintMore
attribute [local go_sem] max2_int min2_int max_two min_two max_three min_three max_four min_four
set_option linter.unusedVariables false
set_option linter.unusedSimpArgs false
mutual
def spec_DrawIsInSpan.j0 : Nat → Int → List (List Int) → Bool → List Int → Int → Int → Option ((List (List Int)) × List Int)
 | 0, _, _, _, _, _, _ => none
 | k + 1, x5, x6, x31, x373000, x373001, x373002 => if x31 = true then (spec_DrawIsInSpan.l0 k x5 x6 (([] : List Int)) 0) else ((spec_l5Row.f k x373000 x373001 x373002 x5).bind fun bt397 => (some (x6, bt397.1)))
def spec_DrawIsInSpan.l0 : Nat → Int → List (List Int) → List Int → Int → Option ((List (List Int)) × List Int)
 | 0, _, _, _, _ => none
 | k + 1, x5, x6, x7, x8 => if x8 < x5 then (if 0 < (x6.length : Int) then (if 0 ≤ x8 then (if x8 < ((rd_L1 x6 0).length : Int) then (if 1 < (x6.length : Int) then (if x8 < ((rd_L1 x6 1).length : Int) then ((spec_Min.f 2 (wrap64 ((rd (rd_L1 x6 0) x8) + (rd (rd_L1 x6 1) x8)))).bind fun t392 => ((spec_Max.f (-2) t392).bind fun t393 => (if x7.length < 17592186044416 then (spec_DrawIsInSpan.l0 k x5 x6 (x7 ++ [t393]) (wrap64 (x8 + 1))) else (none)))) else (none)) else (none)) else (none)) else (none)) else (none)) else (some (x6, x7))
end
def spec_DrawIsInSpan.f (k : Nat) (l0 : List Int) : Option ((List (List Int)) × List Int) := (spec_l1New.f k l0).bind fun bt369 => ((spec_l1Below.f bt369.1 bt369.2.1 bt369.2.2 6).bind fun bt373 => ((spec_l5Any.f k bt369.1 bt373.2.1 bt373.2.2 (wrap64 (1 + bt373.1))).bind fun bt376 => (if (bt376.1.length : Int) > 1 then ((spec_l1Once.f bt369.1 bt376.2.1 bt376.2.2 3).bind fun bt381 => (if bt381.1 = true then (if 0 < (bt376.1.length : Int) then (spec_DrawIsInSpan.j0 k (wrap64 (1 + bt373.1)) bt376.1 (((rd_L1 bt376.1 0).length : Int) == (wrap64 (1 + bt373.1))) bt369.1 bt381.2.1 bt381.2.2) else (none)) else (spec_DrawIsInSpan.j0 k (wrap64 (1 + bt373.1)) bt376.1 false bt369.1 bt381.2.1 bt381.2.2))) else (spec_DrawIsInSpan.j0 k (wrap64 (1 + bt373.1)) bt376.1 false bt369.1 bt376.2.1 bt376.2.2))))
def spec_DrawIsInSpan.T9 : Bool × List (List Nat × List Nat) := (true, [([], []), ([], []), ([1], [1]), ([2], [2]), ([], []), ([3, 4], [3, 4]), ([5], [5]), ([], []), ([7], [7]), ([8], [8]), ([], []), ([9, 10], [9, 10]), ([11], [11]), ([6, 12], [6, 12]), ([13], [13]), ([14, 14], [14]), ([15], [15]), ([0, 16, 15], [0, 16]), ([17, 17, 0, 1, 2, 3, 4, 5, 6, 7, 8, 9, 10, 11, 12, 13, 14, 15, 16, 17], [0, 17])])
def spec_DrawIsInSpan.B9 : List Nat := [0, 0, 2, 6, 0, 30, 62, 0, 128, 384, 0, 1920, 3968, 8190, 16382, 32766, 65534, 131071, 262143]
theorem spec_DrawIsInSpan.tab9 : rtab .any (opsOf Try.f93 9) = spec_DrawIsInSpan.T9 := by kernel_rfl
theorem spec_DrawIsInSpan.bits9 : waitsOk spec_DrawIsInSpan.T9.2 spec_DrawIsInSpan.B9 = true := by kernel_rfl
set_option maxHeartbeats 8000000 in
set_option maxRecDepth 100000 in
theorem spec_DrawIsInSpan.calls (k : Nat) (A0 : Option Addr) (c0 : Nat) (l0 : List Int) (r1 : List (List Int)) (r2 : List Int) (w : World) (hr0 : Kd.C (Kd.int .u8) w A0 l0.length l0) (hc0 : l0.length ≤ c0) (h : spec_DrawIsInSpan.f k l0 = some (r1, r2)) :
 Calls Try.prog 93 #[.slice A0 l0.length c0] w fun e w' => ∃ v0_ v1_ : Value, e = .returned (.tuple #[v0_, v1_]) ∧ Kd.S (Kd.slice 3 (Kd.int .i64)) 23 w' w.heap.size (fun k_ => some k_ ≠ (v1_ : Value).ownBlock) v0_ r1 ∧ Kd.R (Kd.int .i64) 3 w' w.heap.size (fun _ => True) v1_ r2 ∧ Below w.heap.size w w' := by
 have HR0:=aM hr0;have HC0:=aM hc0;clear hr0 hc0;have HB:=aM (Below.refl w.heap.size w);have H:((spec_l1New.f k l0).bind fun bt369=>((spec_l1Below.f bt369.1 bt369.2.1 bt369.2.2 6).bind fun bt373=>((spec_l5Any.f k bt369.1 bt373.2.1 bt373.2.2 (wrap64 (1+bt373.1))).bind fun bt376=>(if (bt376.1.length:Int) > 1 then ((spec_l1Once.f bt369.1 bt376.2.1 bt376.2.2 3).bind fun bt381=>(if bt381.1=true then (if 0<(bt376.1.length:Int) then (spec_DrawIsInSpan.j0 k (wrap64 (1+bt373.1)) bt376.1 (((rd_L1 bt376.1 0).length:Int) == (wrap64 (1+bt373.1))) bt369.1 bt381.2.1 bt381.2.2) else (none)) else (spec_DrawIsInSpan.j0 k (wrap64 (1+bt373.1)) bt376.1 false bt369.1 bt381.2.1 bt381.2.2))) else (spec_DrawIsInSpan.j0 k (wrap64 (1+bt373.1)) bt376.1 false bt369.1 bt376.2.1 bt376.2.2)))))=some (r1,r2):=h;clear h;obtain ⟨⟨t369,t370,t371⟩,A2,H⟩:=bz H;dsimp only at H;obtain ⟨⟨t373,t374,t375⟩,A3,H⟩:=bz H;dsimp only at H;obtain ⟨⟨t376,t379,t380⟩,A4,H⟩:=bz H;dsimp only at H;have HC5:=aM H;clear H;go_enter Try.func93,Try.ntmps93;go_upto_region 4 with (first|((with_reducible refine gate_callee (f:=62) rfl ?_);refine gm (some 10) Try.func62 #[.slice A0 l0.length c0] ?_;(with_reducible refine (spec_l1New.calls k _ _ l0 t369 t370 t371 w _ ?side1 ?side2 ?side3 A2.out).mono ?_);(case side1=>repeat (first|(with_reducible first|exact HB.out|apply below_alloc|apply pw_below_drewN|apply below_drew1)|exact HB.out));(case side2=>exact HR0.out);(case side3=>exact HC0.out);rintro e w6 ⟨g372,rfl,hi,hb,hb2⟩;refine ⟨_,rfl,?_⟩;replace HB:=aM (hb);have HI372:=aM (hi);(try clear hb);(try clear hb2);(try clear hk);(try clear hi))|((with_reducible refine gate_callee (f:=63) rfl ?_);refine gm (some 12) Try.func63 #[.pointer (some ⟨g372,0,none⟩),.int .i64 6] ?_;(with_reducible refine (spec_l1Below.calls g372 t369 t370 t371 6 t373 t374 t375 w _ ?side1 ?side2 A3.out).mono ?_);(case side1=>repeat (first|(with_reducible first|exact HI372.out|apply IsS89.alloc|apply IsS89.drewN|apply IsS89.drew|apply IsS89.set_1|apply IsS89.set_2)|exact HI372.out));(case side2=>repeat (first|(with_reducible first|exact HB.out|apply below_alloc|apply pw_below_drewN|apply below_drew1|refine below_set ?_ (IsS89.ge HI372.out))|exact HB.out));rintro e w7 ⟨rfl,hi,hb,hk⟩;refine ⟨_,rfl,?_⟩;replace HB:=aM (hb);replace HI372:=aM (hi);(try clear hb);(try clear hb2);(try clear hk);(try clear hi))|((with_reducible refine gate_callee (f:=100) rfl ?_);refine gm (some 16) Try.func100 #[.pointer (some ⟨g372,0,none⟩),.int .i64 (wrap64 (1+t373))] ?_;(with_reducible refine (spec_l5Any.calls k g372 t369 t374 t375 (wrap64 (1+t373)) t376 t379 t380 w _ ?side1 ?side2 A4.out).mono ?_);(case side1=>repeat (first|(with_reducible first|exact HI372.out|apply IsS89.alloc|apply IsS89.drewN|apply IsS89.drew|apply IsS89.set_1|apply IsS89.set_2)|exact HI372.out));(case side2=>repeat (first|(with_reducible first|exact HB.out|apply below_alloc|apply pw_below_drewN|apply below_drew1|refine below_set ?_ (IsS89.ge HI372.out))|exact HB.out));rintro e w8 ⟨v377,rfl,ho0,hi,hb,hk⟩;refine ⟨_,rfl,?_⟩;have HO378:=aM (Kd.S_lower ho0 (below_size (by repeat (first|(with_reducible first|exact HB.out|apply below_alloc|apply pw_below_drewN|apply below_drew1|refine below_set ?_ (IsS89.ge HI372.out))|exact HB.out))));replace HB:=aM (hb);replace HI372:=aM (hi);(try clear hb);(try clear hb2);(try clear hk);(try clear hi);(try clear ho0)))
 (try simp only [Act.put,qa,qz,qs]);go_cut [31] (fun v31 wc=>∃(kq:Nat) (x31_4:Bool) (x373001_4:Int) (x373002_4:Int),v31 = .bool x31_4∧Aside0 (spec_DrawIsInSpan.j0 kq (wrap64 (1+t373)) t376 x31_4 t369 x373001_4 x373002_4=some (r1,r2))∧Aside0 (kq≤k)∧Aside0 (Kd.S (Kd.slice 3 (Kd.int .i64)) 23 wc w.heap.size (fun _=>True) v377 t376)∧Aside0 (IsS89 w wc g372 t369 x373001_4 x373002_4)∧Aside0 (Below w.heap.size w wc))
 case first=>
  have H:=HC5.out;clear HC5;by_cases c9:(t376.length:Int) > 1
  ·rw [if_pos c9] at H;have c9b0:decide (1<(t376.length:Int))=true:=decide_eq_true c9;have c9b1:decide (1<t376.length)=true:=decide_eq_true (by omega);clear c9;(first|rw [c9b0]|(simp only [i64_w,i32_w];rw [c9b0])|skip);obtain ⟨⟨t381,t382,t383⟩,A10,H⟩:=bz H;dsimp only at H;by_cases c11:t381=true
   ·subst c11;replace H:=ifT H;obtain ⟨c12b0,H⟩:=iN H;have c12:=of_decide_eq_true c12b0;have c12b1:decide (0<t376.length)=true:=decide_eq_true (by omega);clear c12;have H':=aM H;clear H;obtain ⟨Ao13,co13,eo13⟩:=Kd.S_slice HO378.out;subst eo13;go_wp2_with (first|(go_at_call 66;(with_reducible refine (spec_l1Once.calls g372 t369 t379 t380 3 true t382 t383 w _ ?side1 ?side2 A10.out).mono ?_);(case side1=>repeat (first|(with_reducible first|exact HI372.out|apply IsS89.alloc|apply IsS89.drewN|apply IsS89.drew|apply IsS89.set_1|apply IsS89.set_2)|exact HI372.out));(case side2=>repeat (first|(with_reducible first|exact HB.out|apply below_alloc|apply pw_below_drewN|apply below_drew1|refine below_set ?_ (IsS89.ge HI372.out))|exact HB.out));rintro e w14 ⟨rfl,hi,hb,hk⟩;replace HO378:=aM (Kd.S_mono (Kd.S_keep (IsS89.apartS (show IsS89 w _ g372 t369 t379 t380 from by repeat (first|(with_reducible first|exact HI372.out|apply IsS89.alloc|apply IsS89.drewN|apply IsS89.drew|apply IsS89.set_1|apply IsS89.set_2)|exact HI372.out)) (by (with_reducible repeat (first|apply Kd.S_alloc|apply Kd.S_drewN|apply Kd.S_drew));exact HO378.out) (by decide)) hk (fun _ h=>h.2)) (fun _ h=>h.1));replace HB:=aM (hb);replace HI372:=aM (hi);(try clear hb);(try clear hb2);(try clear hk);(try clear hi);have p384:0≤(0:Int):=(by omega);have q384:0<(t376.length:Int):=zd;obtain ⟨ad384,A384_0,c384_0,e384,hx384_0,hl384_0,hi384_0⟩:=at_L1 (Kd.S_reads' HO378.out).2.2 0 p384 q384;cases e384;obtain ⟨ce384,hce384,hMe384,hcc384⟩:=Kd.S_get HO378.out [] 0 p384 (by first|exact q384|exact zd|(have e_:=(Kd.S_reads' HO378.out).1;omega));obtain ⟨ve384_0,rfl,ge384_0⟩:=hMe384;have hv384_0:=hcc384 0 _ rfl;rw [Nat.add_zero,show ((Kd.slice 3 (Kd.int .i64))).sz=1 from rfl,Nat.mul_one] at hv384_0;replace hv384_0:=Option.some.inj (hv384_0.symm.trans hx384_0);rw [hv384_0] at ge384_0;have HL384_0:=aM (show Kd.R (Kd.int .i64) 3 _ _ _ _ (rd_L1 t376 0) from ge384_0);clear hv384_0 ge384_0 hcc384 hce384;have qi384:(0<t376.length)=True:=eq_true (by omega);(try rw [show ((0:Int)).toNat=0 from rfl] at hx384_0);(try rw [Addr.add_zero'] at hx384_0);have HR384_0:=aM hi384_0;have HC384_0:=aM hl384_0;clear hi384_0 hl384_0;replace p384:=eq_true p384;replace q384:=eq_true q384));go_meet;(case rel=>exact ⟨_,((((rd_L1 t376 0).length:Int) == (wrap64 (1+t373)))),(t382),(t383),zt,H',⟨by first|omega|exact Nat.le_refl _⟩,⟨by (with_reducible repeat (first|apply Kd.S_alloc|apply Kd.S_drewN|apply Kd.S_drew));exact HO378.out⟩,⟨by repeat (first|(with_reducible first|exact HI372.out|apply IsS89.alloc|apply IsS89.drewN|apply IsS89.drew|apply IsS89.set_1|apply IsS89.set_2)|exact HI372.out)⟩,⟨by repeat (first|(with_reducible first|exact HB.out|apply below_alloc|apply pw_below_drewN|apply below_drew1|refine below_set ?_ (IsS89.ge HI372.out))|exact HB.out)⟩⟩)
   ·replace c11:=Bool.eq_false_iff.mpr c11;subst c11;replace H:=ifF H;have H':=aM H;clear H;obtain ⟨Ao15,co15,eo15⟩:=Kd.S_slice HO378.out;subst eo15;go_wp2_with (first|(go_at_call 66;(with_reducible refine (spec_l1Once.calls g372 t369 t379 t380 3 false t382 t383 w _ ?side1 ?side2 A10.out).mono ?_);(case side1=>repeat (first|(with_reducible first|exact HI372.out|apply IsS89.alloc|apply IsS89.drewN|apply IsS89.drew|apply IsS89.set_1|apply IsS89.set_2)|exact HI372.out));(case side2=>repeat (first|(with_reducible first|exact HB.out|apply below_alloc|apply pw_below_drewN|apply below_drew1|refine below_set ?_ (IsS89.ge HI372.out))|exact HB.out));rintro e w16 ⟨rfl,hi,hb,hk⟩;replace HO378:=aM (Kd.S_mono (Kd.S_keep (IsS89.apartS (show IsS89 w _ g372 t369 t379 t380 from by repeat (first|(with_reducible first|exact HI372.out|apply IsS89.alloc|apply IsS89.drewN|apply IsS89.drew|apply IsS89.set_1|apply IsS89.set_2)|exact HI372.out)) (by (with_reducible repeat (first|apply Kd.S_alloc|apply Kd.S_drewN|apply Kd.S_drew));exact HO378.out) (by decide)) hk (fun _ h=>h.2)) (fun _ h=>h.1));replace HB:=aM (hb);replace HI372:=aM (hi);(try clear hb);(try clear hb2);(try clear hk);(try clear hi)));go_meet;(case rel=>exact ⟨_,(false),(t382),(t383),zt,H',⟨by first|omega|exact Nat.le_refl _⟩,⟨by (with_reducible repeat (first|apply Kd.S_alloc|apply Kd.S_drewN|apply Kd.S_drew));exact HO378.out⟩,⟨by repeat (first|(with_reducible first|exact HI372.out|apply IsS89.alloc|apply IsS89.drewN|apply IsS89.drew|apply IsS89.set_1|apply IsS89.set_2)|exact HI372.out)⟩,⟨by repeat (first|(with_reducible first|exact HB.out|apply below_alloc|apply pw_below_drewN|apply below_drew1|refine below_set ?_ (IsS89.ge HI372.out))|exact HB.out)⟩⟩)
  ·rw [if_neg c9] at H;have c9b0:decide (1<(t376.length:Int))=false:=decide_eq_false c9;have c9b1:decide (1<t376.length)=false:=decide_eq_false (by omega);clear c9;(first|rw [c9b0]|(simp only [i64_w,i32_w];rw [c9b0])|skip);have H':=aM H;clear H;obtain ⟨Ao17,co17,eo17⟩:=Kd.S_slice HO378.out;subst eo17;go_wp2;go_meet;(case rel=>exact ⟨_,(false),(t379),(t380),zt,H',⟨by first|omega|exact Nat.le_refl _⟩,⟨by (with_reducible repeat (first|apply Kd.S_alloc|apply Kd.S_drewN|apply Kd.S_drew));exact HO378.out⟩,⟨by repeat (first|(with_reducible first|exact HI372.out|apply IsS89.alloc|apply IsS89.drewN|apply IsS89.drew|apply IsS89.set_1|apply IsS89.set_2)|exact HI372.out)⟩,⟨by repeat (first|(with_reducible first|exact HB.out|apply below_alloc|apply pw_below_drewN|apply below_drew1|refine below_set ?_ (IsS89.ge HI372.out))|exact HB.out)⟩⟩)
 case rest=>
  clear HC5;(try clear c1);(try clear p2);(try clear c3);(try clear p3);(try clear q3);(try clear hx3);(try clear qi3);(try clear c6);(try clear p6);(try clear c9);(try clear c9b0);(try clear c9b1);(try clear c10);(try clear c11);(try clear c12);(try clear c12b0);(try clear c12b1);(try clear hx384_0);(try clear p384);(try clear q384);obtain ⟨kq,x31_4,x373001_4,x373002_4,rfl,HA,HJ4,HO_6,HI372,HB⟩:=hcut;cases kq with
  | zero=>exact absurd HA.out (by simp [spec_DrawIsInSpan.j0])
  | succ kj4=>
   have H:=HA.out;clear HA;simp only [spec_DrawIsInSpan.j0] at H;by_cases c18:x31_4=true
   ·subst c18;replace H:=ifT H;obtain ⟨y385,hy385⟩:∃y_:List Int,y_=(([]:List Int)):=⟨_,rfl⟩;replace H:(spec_DrawIsInSpan.l0 kj4 (wrap64 (1+t373)) t376 y385 0)=some (r1,r2):=(by first|(rw [hy385];with_reducible exact H)|(have H2_:=(Option.bind_some _ _).symm.trans H;rw [hy385];with_reducible exact H2_)|(have H2_:=(Option.bind_some _ _).symm.trans H;with_reducible exact H2_)|with_reducible exact H|(rw [hy385];exact H)|exact H);have Ny385:=aM hy385;clear hy385;have H':=aM H;clear H;go_wp2_with (first|((with_reducible refine gate_dst (N:=32) rfl ?_);(try (refine gate_guard (by rfl) ?_;dsimp only));refine Kd.R_lit (Kd.int .i64) _ 3 ?hg (N:=32) ?hd (xs:=([]:List Int)) (inner:=[]) (ok:=fun _=>True) (okp:=fun _=>True) ?hr ?hp (fun _ hk=>hk) trivial (Below.refl _ _) (Nat.le_refl _) (by simp) ?_;(case hd=>rfl);(case hg=>rfl);(case hr=>first|(go_simp;done)|(go_simp;rfl));(case hp=>exact (Reps.none _ _));intro v386 w19 ho20 hb hg_ hnew_;clear hg_ hnew_;(first|rw [← Ny385.out] at ho20|(simp only [Int.reduceToNat] at ho20;rw [← Ny385.out] at ho20));replace HO_6:=aM (Kd.S_elder' (by (with_reducible repeat (first|apply Kd.S_alloc|apply Kd.S_drewN|apply Kd.S_drew));exact HO_6.out) (Kd.R_base ho20) hb);have HO387:=aM (Kd.R_lower ho20 (below_size (by repeat (first|(with_reducible first|exact HB.out|apply below_alloc|apply pw_below_drewN|apply below_drew1|refine below_set ?_ (IsS89.ge HI372.out))|exact HB.out))));replace HB:=aM (below_step (by repeat (first|(with_reducible first|exact HB.out|apply below_alloc|apply pw_below_drewN|apply below_drew1|refine below_set ?_ (IsS89.ge HI372.out))|exact HB.out)) hb);replace HI372:=aM (IsS89.below (by repeat (first|(with_reducible first|exact HI372.out|apply IsS89.alloc|apply IsS89.drewN|apply IsS89.drew|apply IsS89.set_1|apply IsS89.set_2)|exact HI372.out)) hb);clear hb ho20));go_loopg [7,8] kj4 (fun kq v7 v8 w'=>∃(x7_2:List Int) (x8_2:Int),v8 = .int .i64 x8_2∧Aside0 (spec_DrawIsInSpan.l0 kq (wrap64 (1+t373)) t376 x7_2 x8_2=some (r1,r2))∧Aside0 (kq≤kj4)∧Aside0 (Kd.S (Kd.slice 3 (Kd.int .i64)) 23 w' w.heap.size (fun k_=>some k_≠(v7:Value).ownBlock) v377 t376)∧Aside0 (Kd.R (Kd.int .i64) 3 w' w.heap.size (fun _=>True) v7 x7_2)∧Aside0 (Below w.heap.size w w'));(case atStart=>exact ⟨(y385),(0),zt,H',⟨Nat.le_refl _⟩,⟨by (with_reducible repeat (first|apply Kd.S_alloc|apply Kd.S_drewN|apply Kd.S_drew));exact Kd.S_mono HO_6.out (fun _ hk=>hk.2)⟩,⟨zr HO387.out⟩,⟨by repeat (first|(with_reducible first|exact HB.out|apply below_alloc|apply pw_below_drewN|apply below_drew1|refine below_set ?_ (IsS89.ge HI372.out))|exact HB.out)⟩⟩)
    case round=>
     clear H';(try clear c1);(try clear p2);(try clear c3);(try clear p3);(try clear q3);(try clear hx3);(try clear qi3);(try clear c6);(try clear p6);(try clear c9);(try clear c9b0);(try clear c9b1);(try clear c10);(try clear c11);(try clear c12);(try clear c12b0);(try clear c12b1);(try clear c18);(try clear hx384_0);(try clear p2);(try clear p3);(try clear p384);(try clear p6);(try clear q3);(try clear q384);obtain ⟨x7_2,x8_2,rfl,HA,HK2,HO_6,HO_7,HB⟩:=hrel;cases gk with
     | zero=>exact absurd HA.out (by simp [spec_DrawIsInSpan.l0])
     | succ k2=>
      have H:=HA.out;clear HA;simp only [spec_DrawIsInSpan.l0] at H;by_cases c21:x8_2<(wrap64 (1+t373))
      ·rw [if_pos c21] at H;have c21b0:decide (x8_2<(wrap64 (1+t373)))=true:=decide_eq_true c21;clear c21;obtain ⟨c22b0,H⟩:=iN H;have c22:=of_decide_eq_true c22b0;have c22b1:decide (0<t376.length)=true:=decide_eq_true (by omega);clear c22;obtain ⟨c23b0,H⟩:=iN H;obtain ⟨c24b0,H⟩:=iN H;obtain ⟨c25b0,H⟩:=iN H;have c25:=of_decide_eq_true c25b0;have c25b1:decide (1<t376.length)=true:=decide_eq_true (by omega);clear c25;obtain ⟨c26b0,H⟩:=iN H;obtain ⟨t392,A27,H⟩:=bz H;obtain ⟨t393,A28,H⟩:=bz H;by_cases c29:x7_2.length<17592186044416
       ·rw [if_pos c29] at H;have LMc29:=aM c29;clear c29;obtain ⟨y394,hy394⟩:∃y_:List Int,y_=(x7_2 ++ [t393]):=⟨_,rfl⟩;replace H:(spec_DrawIsInSpan.l0 k2 (wrap64 (1+t373)) t376 y394 (wrap64 (x8_2+1)))=some (r1,r2):=(by first|(rw [hy394];with_reducible exact H)|(have H2_:=(Option.bind_some _ _).symm.trans H;rw [hy394];with_reducible exact H2_)|(have H2_:=(Option.bind_some _ _).symm.trans H;with_reducible exact H2_)|with_reducible exact H|(rw [hy394];exact H)|exact H);have Ny394:=aM hy394;clear hy394;have H':=aM H;clear H;(try go_wp2);replace HO_6:=aM (Kd.S_drew HO_6.out);replace HO_7:=aM (Kd.R_drew HO_7.out);replace HB:=aM (below_drew1 HB.out);obtain ⟨Ao31,co31,eo31⟩:=Kd.S_slice HO_6.out;(first|subst eo31|(injection eo31 with f1_ f2_ f3_;have f4_:=f1_.symm;have f5_:=f3_.symm;clear f1_ f2_ f3_;subst f4_;subst f5_));have p388:0≤(0:Int):=(by omega);have q388:0<(t376.length:Int):=zd;obtain ⟨ad388,A388_0,c388_0,e388,hx388_0,hl388_0,hi388_0⟩:=at_L1 (Kd.S_reads' HO_6.out).2.2 0 p388 q388;cases e388;obtain ⟨ce388,hce388,hMe388,hcc388⟩:=Kd.S_get HO_6.out [] 0 p388 (by first|exact q388|exact zd|(have e_:=(Kd.S_reads' HO_6.out).1;omega));obtain ⟨ve388_0,rfl,ge388_0⟩:=hMe388;have hv388_0:=hcc388 0 _ rfl;rw [Nat.add_zero,show ((Kd.slice 3 (Kd.int .i64))).sz=1 from rfl,Nat.mul_one] at hv388_0;replace hv388_0:=Option.some.inj (hv388_0.symm.trans hx388_0);rw [hv388_0] at ge388_0;have HL388_0:=aM (show Kd.R (Kd.int .i64) 3 _ _ _ _ (rd_L1 t376 0) from ge388_0);clear hv388_0 ge388_0 hcc388 hce388;have qi388:(0<t376.length)=True:=eq_true (by omega);(try rw [show ((0:Int)).toNat=0 from rfl] at hx388_0);(try rw [Addr.add_zero'] at hx388_0);have HR388_0:=aM hi388_0;have HC388_0:=aM hl388_0;clear hi388_0 hl388_0;replace p388:=eq_true p388;replace q388:=eq_true q388;have p389:0≤(x8_2:Int):=zd;have q389:x8_2<((rd_L1 t376 0).length:Int):=zd;obtain ⟨ad389,e389,hx389_0⟩:=Kd.at_int (zc HR388_0.out) x8_2 p389 q389;cases e389;replace p389:=eq_true p389;replace q389:=eq_true q389;have p390:0≤(1:Int):=(by omega);have q390:1<(t376.length:Int):=zd;obtain ⟨ad390,A390_0,c390_0,e390,hx390_0,hl390_0,hi390_0⟩:=at_L1 (Kd.S_reads' HO_6.out).2.2 1 p390 q390;obtain rfl:ad388=ad390:=(by injection e390);obtain ⟨ce390,hce390,hMe390,hcc390⟩:=Kd.S_get HO_6.out [] 1 p390 (by first|exact q390|exact zd|(have e_:=(Kd.S_reads' HO_6.out).1;omega));obtain ⟨ve390_0,rfl,ge390_0⟩:=hMe390;have hv390_0:=hcc390 0 _ rfl;rw [Nat.add_zero,show ((Kd.slice 3 (Kd.int .i64))).sz=1 from rfl,Nat.mul_one] at hv390_0;replace hv390_0:=Option.some.inj (hv390_0.symm.trans hx390_0);rw [hv390_0] at ge390_0;have HL390_0:=aM (show Kd.R (Kd.int .i64) 3 _ _ _ _ (rd_L1 t376 1) from ge390_0);clear hv390_0 ge390_0 hcc390 hce390;(try simp only [show (1:Int).toNat=1 from rfl,Nat.reduceMul,Nat.reduceEqDiff,Go.Addr.add,↓reduceIte] at hx390_0);have qi390:(1<t376.length)=True:=eq_true (by omega);(try rw [show ((1:Int)).toNat=1 from rfl] at hx390_0);have HR390_0:=aM hi390_0;have HC390_0:=aM hl390_0;clear hi390_0 hl390_0;replace p390:=eq_true p390;replace q390:=eq_true q390;have p391:0≤(x8_2:Int):=zd;have q391:x8_2<((rd_L1 t376 1).length:Int):=zd;obtain ⟨ad391,e391,hx391_0⟩:=Kd.at_int (zc HR390_0.out) x8_2 p391 q391;cases e391;replace p391:=eq_true p391;replace q391:=eq_true q391;refine start_ (n:=19) (S:=fun w'=>w'.cell? ad388=some (.slice (some ad389) (rd_L1 t376 0).length c388_0)∧w'.cell? (ad389.add (x8_2).toNat)=some (.int .i64 (rd (rd_L1 t376 0) x8_2))∧w'.cell? ⟨ad388.block,ad388.off+1,none⟩=some (.slice (some ad391) (rd_L1 t376 1).length c390_0)∧w'.cell? (ad391.add (x8_2).toNat)=some (.int .i64 (rd (rd_L1 t376 1) x8_2))) (ds:=[16,17]) #[ff,ff,ff,ff,ff,ff,ff,ff,ff,ff,ff,ff,ff,ff,ff,ff,ff,ff,ff] (by kernel_rfl) rfl rfl ⟨hx388_0,hx389_0,hx390_0,hx391_0⟩ (fun hHeld=>?_);refine with_tabW spec_DrawIsInSpan.tab9 spec_DrawIsInSpan.bits9 (fun HT_ HW_=>?_);generalize wr.drew=w30 at HO_6 HO_7 HB HL388_0 HL390_0 HR388_0 HR390_0 hx388_0 hx389_0 hx390_0 hx391_0 hHeld ⊢;refine pu 0 (some 38) #[tt,ff,ff,ff,ff,ff,ff,ff,ff,ff,ff,ff,ff,ff,ff,ff,ff,ff,ff] rfl rfl HT_ ?_;refine pu 1 (some 39) #[tt,tt,ff,ff,ff,ff,ff,ff,ff,ff,ff,ff,ff,ff,ff,ff,ff,ff,ff] rfl rfl HT_ ?_;refine pu 2 (some 40) #[tt,tt,tt,ff,ff,ff,ff,ff,ff,ff,ff,ff,ff,ff,ff,ff,ff,ff,ff] rfl rfl HT_ ?_;refine pu 4 (some 42) #[tt,tt,tt,ff,tt,ff,ff,ff,ff,ff,ff,ff,ff,ff,ff,ff,ff,ff,ff] rfl rfl HT_ ?_;refine pu 7 (some 45) #[tt,tt,tt,ff,tt,ff,ff,tt,ff,ff,ff,ff,ff,ff,ff,ff,ff,ff,ff] rfl rfl HT_ ?_;refine pu 8 (some 46) #[tt,tt,tt,ff,tt,ff,ff,tt,tt,ff,ff,ff,ff,ff,ff,ff,ff,ff,ff] rfl rfl HT_ ?_;refine pu 10 (some 48) #[tt,tt,tt,ff,tt,ff,ff,tt,tt,ff,tt,ff,ff,ff,ff,ff,ff,ff,ff] rfl rfl HT_ ?_;refine take_ (i:=3) (N:=some 41) (v:=?_) (a':=?_) #[tt,tt,tt,tt,tt,ff,ff,tt,tt,ff,tt,ff,ff,ff,ff,ff,ff,ff,ff] rfl rfl (take_ofW HT_.out HW_.out (by kernel_rfl)) (fun _ _ _ h=>h) (Or.inl ⟨by rfl,?_⟩) hHeld ?_ ?_;rotate_left
        ·rintro w' ⟨s0,s1,s2,s3⟩;go_simp;(with_reducible rfl)
        rotate_left
        ·simp only [Act.put,qa,qz,qs,i64_w,i32_w];rfl
        refine pu 5 (some 43) #[tt,tt,tt,tt,tt,tt,ff,tt,tt,ff,tt,ff,ff,ff,ff,ff,ff,ff,ff] rfl rfl HT_ ?_;refine take_ (i:=6) (N:=some 44) (v:=?_) (a':=?_) #[tt,tt,tt,tt,tt,tt,tt,tt,tt,ff,tt,ff,ff,ff,ff,ff,ff,ff,ff] rfl rfl (take_ofW HT_.out HW_.out (by kernel_rfl)) (fun _ _ _ h=>h) (Or.inl ⟨by rfl,?_⟩) hHeld ?_ ?_;rotate_left
        ·rintro w' ⟨s0,s1,s2,s3⟩;go_simp;(with_reducible rfl)
        rotate_left
        ·simp only [Act.put,qa,qz,qs,i64_w,i32_w];rfl
        refine take_ (i:=9) (N:=some 47) (v:=?_) (a':=?_) #[tt,tt,tt,tt,tt,tt,tt,tt,tt,tt,tt,ff,ff,ff,ff,ff,ff,ff,ff] rfl rfl (take_ofW HT_.out HW_.out (by kernel_rfl)) (fun _ _ _ h=>h) (Or.inl ⟨by rfl,?_⟩) hHeld ?_ ?_;rotate_left
        ·rintro w' ⟨s0,s1,s2,s3⟩;go_simp;(with_reducible rfl)
        rotate_left
        ·simp only [Act.put,qa,qz,qs,i64_w,i32_w];rfl
        refine pu 11 (some 49) #[tt,tt,tt,tt,tt,tt,tt,tt,tt,tt,tt,tt,ff,ff,ff,ff,ff,ff,ff] rfl rfl HT_ ?_;refine take_ (i:=12) (N:=some 50) (v:=?_) (a':=?_) #[tt,tt,tt,tt,tt,tt,tt,tt,tt,tt,tt,tt,tt,ff,ff,ff,ff,ff,ff] rfl rfl (take_ofW HT_.out HW_.out (by kernel_rfl)) (fun _ _ _ h=>h) (Or.inl ⟨by rfl,?_⟩) hHeld ?_ ?_;rotate_left
        ·rintro w' ⟨s0,s1,s2,s3⟩;go_simp;(with_reducible rfl)
        rotate_left
        ·simp only [Act.put,qa,qz,qs,i64_w,i32_w];rfl
        refine pu 13 (some 51) #[tt,tt,tt,tt,tt,tt,tt,tt,tt,tt,tt,tt,tt,tt,ff,ff,ff,ff,ff] rfl rfl HT_ ?_;refine one_ (i:=14) (N:=some 52) #[tt,tt,tt,tt,tt,tt,tt,tt,tt,tt,tt,tt,tt,tt,tt,ff,ff,ff,ff] rfl rfl (one_of HT_.out (by kernel_rfl)) (by decide) (fun K hK=>?_);refine gs Try.func111 #[.int .i64 2,.int .i64 (wrap64 ((rd (rd_L1 t376 0) x8_2)+(rd (rd_L1 t376 1) x8_2)))] ?_;(with_reducible refine (spec_Min.calls 2 (wrap64 ((rd (rd_L1 t376 0) x8_2)+(rd (rd_L1 t376 1) x8_2))) t392 _ A27.out).mono ?_);rintro e w' ⟨rfl,⟨nd,rfl⟩⟩;refine ⟨_,rfl,?_⟩;refine hK.out _ _ ⟨hHeld.1,hHeld.2.1,hHeld.2.2.1,hHeld.2.2.2⟩ (fun hHeld=>?_);clear hK K;refine norm_ (a':=?_) ?_ ?_;rotate_left
        ·show Act.put _ (some 52) _=_;simp only [Act.put,qa,qz,qs,i64_w,i32_w];rfl
        refine one_ (i:=15) (N:=some 53) #[tt,tt,tt,tt,tt,tt,tt,tt,tt,tt,tt,tt,tt,tt,tt,tt,ff,ff,ff] rfl rfl (one_of HT_.out (by kernel_rfl)) (by decide) (fun K hK=>?_);refine gs Try.func110 #[.int .i64 (-2),.int .i64 t392] ?_;(with_reducible refine (spec_Max.calls (-2) t392 t393 _ A28.out).mono ?_);rintro e w' ⟨rfl,⟨nd,rfl⟩⟩;refine ⟨_,rfl,?_⟩;refine hK.out _ _ ⟨hHeld.1,hHeld.2.1,hHeld.2.2.1,hHeld.2.2.2⟩ (fun hHeld=>?_);clear hK K;refine norm_ (a':=?_) ?_ ?_;rotate_left
        ·show Act.put _ (some 53) _=_;simp only [Act.put,qa,qz,qs,i64_w,i32_w];rfl
        refine last_ (i:=16) (N:=some 54) #[tt,tt,tt,tt,tt,tt,tt,tt,tt,tt,tt,tt,tt,tt,tt,tt,tt,ff,ff] rfl rfl (one_of HT_.out (by kernel_rfl)) (by decide) (fun K hK=>?_);refine value_ (w1:=?_) (v:=?_) (by rfl) rfl ?_ ?_;rotate_left 2
        ·go_simp;constructor
         ·rfl
         ·rfl
        refine hK.out _ _ ?_;clear hK K;refine norm_ (a':=?_) ?_ ?_;rotate_left
        ·show Act.put _ (some 54) _=_;simp only [Act.put,qa,qz,qs,i64_w,i32_w];rfl
        refine last_ (i:=17) (N:=some 55) #[tt,tt,tt,tt,tt,tt,tt,tt,tt,tt,tt,tt,tt,tt,tt,tt,tt,tt,ff] rfl rfl (one_of HT_.out (by kernel_rfl)) (by decide) (fun K hK=>?_);refine Kd.R_append_step (Kd.int .i64) (w0:=w) w.heap.size (by rfl) (.tmp 38) (.tmp 54) 23 3 (.int .i64 0) 8 rfl Try.underlying23 info3 rfl (by decide) (by omega) u7 x7_2 t393 [.int .i64 t393] (fun _=>True) (fun _=>False) rfl rfl ?aP (fun _ hk=>hk.elim) ?aF ?aO ?aB ?aS ?aL ?_;(case aP=>exact rfl);(case aB=>exact (zb HB.out));(case aF=>exact (fun _ _=>trivial));(case aO=>exact (zr HO_7.out));(case aS=>exact (below_size (zb HB.out)));(case aL=>have:=LMc29.out;omega);intro v395 w32 ho hb hg hat;rw [← Ny394.out] at ho;replace HO_6:=aM (Kd.S_after (ok:=(fun _=>True)) (by (with_reducible repeat (first|apply Kd.S_alloc|apply Kd.S_drewN|apply Kd.S_drew));exact Kd.S_mono HO_6.out (fun _ hk=>⟨trivial,hk⟩)) hg hat);replace HL388_0:=aM (Kd.R_after (ok:=(fun k_=>some k_≠(.slice (some ad388) t376.length co31:Value).ownBlock)) (by (with_reducible repeat (first|apply Kd.R_alloc|apply Kd.R_drewN|apply Kd.R_drew));exact Kd.R_mono HL388_0.out (fun _ hk=>⟨hk.2,hk.1⟩)) hg hat);replace HL390_0:=aM (Kd.R_after (ok:=(fun k_=>some k_≠(.slice (some ad388) t376.length co31:Value).ownBlock)) (by (with_reducible repeat (first|apply Kd.R_alloc|apply Kd.R_drewN|apply Kd.R_drew));exact Kd.R_mono HL390_0.out (fun _ hk=>⟨hk.2,hk.1⟩)) hg hat);replace HB:=aM (hb);have HO396:=aM (ho);clear HO_7 ho hb hg hat;refine hK.out _ _ ?_;clear hK K;refine norm_ (a':=?_) ?_ ?_;rotate_left
        ·show Act.put _ (some 55) _=_;simp only [Act.put,qa,qz,qs,i64_w,i32_w];rfl
        refine pu 18 (some 7) #[tt,tt,tt,tt,tt,tt,tt,tt,tt,tt,tt,tt,tt,tt,tt,tt,tt,tt,tt] rfl rfl HT_ ?_;refine done_ (done_of HT_.out (by kernel_rfl)) ?_;(try go_wp2);go_roundg k2;(case measure=>have:=HJ4.out;have:=HK2.out;omega);(case rel=>exact ⟨(y394),(wrap64 (x8_2+1)),zt,H',⟨by have:=HJ4.out;have:=HK2.out;omega⟩,⟨by (with_reducible repeat (first|apply Kd.S_alloc|apply Kd.S_drewN|apply Kd.S_drew));exact Kd.S_mono HO_6.out (fun _ hk=>hk.2)⟩,⟨zr HO396.out⟩,⟨zb HB.out⟩⟩)
       ·rw [if_neg c29] at H;exact absurd H (by simp)
      ·rw [if_neg c21] at H;have c21b0:decide (x8_2<(wrap64 (1+t373)))=false:=decide_eq_false c21;clear c21;simp only [Option.some.injEq,Prod.mk.injEq] at H;obtain ⟨rfl,rfl⟩:=H;go_wp2;go_ret2;exact ⟨_,_,by first|rfl|(simp [errW_none,errW_some]<;>rfl)|(simp [*,errW_none,errW_some]<;>rfl),by (with_reducible repeat (first|apply Kd.S_alloc|apply Kd.S_drewN|apply Kd.S_drew));exact HO_6.out,zr HO_7.out,zb HB.out⟩
   ·replace c18:=Bool.eq_false_iff.mpr c18;subst c18;replace H:=ifF H;obtain ⟨⟨t397,t400,t401⟩,A33,H⟩:=bz H;dsimp only at H;simp only [Option.some.injEq,Prod.mk.injEq] at H;obtain ⟨rfl,rfl⟩:=H;go_wp2_with (first|((with_reducible refine gate_callee (f:=67) rfl ?_);refine gm (some 61) Try.func67 #[.pointer (some ⟨g372,0,none⟩),.int .i64 (wrap64 (1+t373))] ?_;(with_reducible refine (spec_l5Row.calls kj4 g372 t369 x373001_4 x373002_4 (wrap64 (1+t373)) t397 t400 t401 w _ ?side1 ?side2 A33.out).mono ?_);(case side1=>repeat (first|(with_reducible first|exact HI372.out|apply IsS89.alloc|apply IsS89.drewN|apply IsS89.drew|apply IsS89.set_1|apply IsS89.set_2)|exact HI372.out));(case side2=>repeat (first|(with_reducible first|exact HB.out|apply below_alloc|apply pw_below_drewN|apply below_drew1|refine below_set ?_ (IsS89.ge HI372.out))|exact HB.out));rintro e w34 ⟨v398,rfl,ho0,hi,hb,hk⟩;refine ⟨_,rfl,?_⟩;replace HO_6:=aM (Kd.S_mono (Kd.S_told (Kd.S_oldK (IsS89.apartS (show IsS89 w _ g372 t369 x373001_4 x373002_4 from by repeat (first|(with_reducible first|exact HI372.out|apply IsS89.alloc|apply IsS89.drewN|apply IsS89.drew|apply IsS89.set_1|apply IsS89.set_2)|exact HI372.out)) (by (with_reducible repeat (first|apply Kd.S_alloc|apply Kd.S_drewN|apply Kd.S_drew));exact HO_6.out) (by decide)) hk) (Kd.R_base ho0)) (fun _ h_=>h_.1));have HO399:=aM (Kd.R_lower ho0 (below_size (by repeat (first|(with_reducible first|exact HB.out|apply below_alloc|apply pw_below_drewN|apply below_drew1|refine below_set ?_ (IsS89.ge HI372.out))|exact HB.out))));replace HB:=aM (hb);replace HI372:=aM (hi);(try clear hb);(try clear hb2);(try clear hk);(try clear hi);(try clear ho0)));go_ret2;exact ⟨_,_,by first|rfl|(simp [errW_none,errW_some]<;>rfl)|(simp [*,errW_none,errW_some]<;>rfl),by (with_reducible repeat (first|apply Kd.S_alloc|apply Kd.S_drewN|apply Kd.S_drew));exact Kd.S_mono HO_6.out (fun _ hk=>hk.2),zr HO399.out,by repeat (first|(with_reducible first|exact HB.out|apply below_alloc|apply pw_below_drewN|apply below_drew1|refine below_set ?_ (IsS89.ge HI372.out))|exact HB.out)⟩
def spec_DrawNullVector.f (k : Nat) (l0 : List Int) : Option ((List (List Int)) × List Int) := (spec_DrawIsInSpan.f k l0).bind fun bt402 => (some (bt402.1, bt402.2))
set_option maxHeartbeats 8000000 in
set_option maxRecDepth 100000 in
theorem spec_DrawNullVector.calls (k : Nat) (A0 : Option Addr) (c0 : Nat) (l0 : List Int) (r1 : List (List Int)) (r2 : List Int) (w : World) (hr0 : Kd.C (Kd.int .u8) w A0 l0.length l0) (hc0 : l0.length ≤ c0) (h : spec_DrawNullVector.f k l0 = some (r1, r2)) :
 Calls Try.prog 54 #[.slice A0 l0.length c0] w fun e w' => ∃ v0_ v1_ : Value, e = .returned (.tuple #[v0_, v1_]) ∧ Kd.S (Kd.slice 3 (Kd.int .i64)) 23 w' w.heap.size (fun k_ => some k_ ≠ (v1_ : Value).ownBlock) v0_ r1 ∧ Kd.R (Kd.int .i64) 3 w' w.heap.size (fun _ => True) v1_ r2 ∧ Below w.heap.size w w' := by
 have HR0:=aM hr0;have HC0:=aM hc0;clear hr0 hc0;have HB:=aM (Below.refl w.heap.size w);have H:((spec_DrawIsInSpan.f k l0).bind fun bt402=>(some (bt402.1,bt402.2)))=some (r1,r2):=h;clear h;obtain ⟨⟨t402,t403⟩,A2,H⟩:=bz H;dsimp only at H;simp only [Option.some.injEq,Prod.mk.injEq] at H;obtain ⟨rfl,rfl⟩:=H;go_enter Try.func54,Try.ntmps54;go_wp2_with (first|((with_reducible refine gate_callee (f:=93) rfl ?_);refine gm (some 5) Try.func93 #[.slice A0 l0.length c0] ?_;(with_reducible refine (spec_DrawIsInSpan.calls k _ _ l0 t402 t403 _ ?side1 ?side2 A2.out).mono ?_);(case side1=>exact zc HR0.out);(case side2=>exact HC0.out);rintro e w3 ⟨v404,v406,rfl,ho0,ho1,hb⟩;refine ⟨_,rfl,?_⟩;have HO405:=aM (Kd.S_lower ho0 (below_size (zb HB.out)));have HO407:=aM (Kd.R_lower ho1 (below_size (zb HB.out)));replace HB:=aM (below_step (zb HB.out) hb);(try clear hb);(try clear hb2);(try clear hk);(try clear hi);(try clear ho0);(try clear ho1)));go_ret2;exact ⟨_,_,by first|rfl|(simp [errW_none,errW_some]<;>rfl)|(simp [*,errW_none,errW_some]<;>rfl),by (with_reducible repeat (first|apply Kd.S_alloc|apply Kd.S_drewN|apply Kd.S_drew));exact HO405.out,zr HO407.out,zb HB.out⟩
end Go.Proofs.Ytojkepidkmkmpaa.PFnSpan
end
section
namespace Go.Proofs.Ytojkepidkmkmpaa.PFnSpan
open Go.Proofs.YtojkepidkmkmpaaW.PrintWords.Aside0 renaming mk → aM
open List renaming setIfInBounds_toArray → qa, set_cons_zero → qz, set_cons_succ → qs
open Bool renaming true → tt, false → ff
open Option renaming bind_eq_some_iff → bE

open Go.RowKit Go.Proofs.YtojkepidkmkmpaaW.PrintWords Go.Proofs.YtojkepidkmkmpaaW.PrintLast Go.Proofs.YtojkepidkmkmpaaW.PrintMore
attribute [local go_sem] max2_int min2_int max_two min_two max_three min_three max_four min_four
set_option linter.unusedVariables false
set_option linter.unusedSimpArgs false
mutual
def laws_FnSpan.j0 : Nat → List (List Int) → List Int → List Int → Bool → Bool → Option (Bool)
 | 0, _, _, _, _, _ => none
 | k + 1, x3, x4, x5, x6, x45 => if x45 = true then (if x6 = true then (some false) else (some ((x5.length : Int) == 0))) else (if x6 = true then (some ((x5.length : Int) == 0)) else (laws_FnSpan.l0 k x3 x4 x5 0))
def laws_FnSpan.l0 : Nat → List (List Int) → List Int → List Int → Int → Option (Bool)
 | 0, _, _, _, _ => none
 | k + 1, x3, x4, x5, x7 => if x7 < (x3.length : Int) then (if 0 ≤ x7 then ((impl_DotOf.f k (rd_L1 x3 x7) x5).bind fun t425 => (if t425 = 0 then (laws_FnSpan.l0 k x3 x4 x5 (wrap64 (x7 + 1))) else (some false))) else (none)) else (if (x5.length : Int) = (x4.length : Int) then ((impl_DotOf.f k x4 x5).bind fun t426 => (some (t426 != 0))) else (some false))
end
def laws_FnSpan.f (k : Nat) (l0 : List Int) : Option (Bool) := (laws_big.f l0).bind fun t408 => (if t408 = true then (some true) else ((spec_DrawNullVector.f k l0).bind fun bt409 => ((impl_NullVector.f k bt409.1 bt409.2).bind fun t415 => ((spec_NullVector.f k bt409.1 bt409.2).bind fun t418 => (if (t415.length : Int) = (t418.length : Int) then ((impl_IsInSpan.f k bt409.1 bt409.2).bind fun t421 => (if (bt409.2.length : Int) = 0 then (laws_FnSpan.j0 k bt409.1 bt409.2 t415 t421 true) else ((impl_IsMatrix.f k bt409.1 (bt409.2.length : Int)).bind fun t422 => (if t422 = true then ((impl_IsMatrix.f k ([bt409.2] : List (List Int)) (bt409.2.length : Int)).bind fun t423 => (laws_FnSpan.j0 k bt409.1 bt409.2 t415 t421 (!t423))) else (laws_FnSpan.j0 k bt409.1 bt409.2 t415 t421 true))))) else (some false))))))
set_option maxHeartbeats 8000000 in
set_option maxRecDepth 100000 in
theorem laws_FnSpan.calls (k : Nat) (A0 : Option Addr) (c0 : Nat) (l0 : List Int) (r : Bool) (w : World) (hr0 : Kd.C (Kd.int .u8) w A0 l0.length l0) (hc0 : l0.length ≤ c0) (h : laws_FnSpan.f k l0 = some r) :
 Calls Try.prog 13 #[.slice A0 l0.length c0] w fun e w' => e = .returned (.bool r) ∧ Below w.heap.size w w' := by
 have HR0:=aM hr0;have HC0:=aM hc0;clear hr0 hc0;have HB:=aM (Below.refl w.heap.size w);have H:((laws_big.f l0).bind fun t408=>(if t408=true then (some true) else ((spec_DrawNullVector.f k l0).bind fun bt409=>((impl_NullVector.f k bt409.1 bt409.2).bind fun t415=>((spec_NullVector.f k bt409.1 bt409.2).bind fun t418=>(if (t415.length:Int)=(t418.length:Int) then ((impl_IsInSpan.f k bt409.1 bt409.2).bind fun t421=>(if (bt409.2.length:Int)=0 then (laws_FnSpan.j0 k bt409.1 bt409.2 t415 t421 true) else ((impl_IsMatrix.f k bt409.1 (bt409.2.length:Int)).bind fun t422=>(if t422=true then ((impl_IsMatrix.f k ([bt409.2]:List (List Int)) (bt409.2.length:Int)).bind fun t423=>(laws_FnSpan.j0 k bt409.1 bt409.2 t415 t421 (!t423))) else (laws_FnSpan.j0 k bt409.1 bt409.2 t415 t421 true))))) else (some false)))))))=some r:=h;clear h;obtain ⟨t408,A2,H⟩:=bz H;by_cases c3:t408=true
 ·subst c3;replace H:=ifT H;obtain rfl:=Option.some.inj H;go_enter Try.func13,Try.ntmps13;go_wp2_with (first|((with_reducible refine gate_callee (f:=23) rfl ?_);refine gm (some 9) Try.func23 #[.slice A0 l0.length c0] ?_;(with_reducible refine (laws_big.calls _ _ l0 true _ ?side1 ?side2 A2.out).mono ?_);(case side1=>exact zc HR0.out);(case side2=>exact HC0.out);rintro e w' ⟨rfl,⟨nd,rfl⟩⟩;refine ⟨_,rfl,?_⟩));go_ret;exact ⟨by first|rfl|(simp [errW_none,errW_some]<;>rfl)|(simp [*,errW_none,errW_some]<;>rfl),zb HB.out⟩
 ·replace c3:=Bool.eq_false_iff.mpr c3;subst c3;replace H:=ifF H;obtain ⟨⟨t409,t410⟩,A4,H⟩:=bz H;dsimp only at H;obtain ⟨t415,A5,H⟩:=bz H;obtain ⟨t418,A6,H⟩:=bz H;by_cases c7:(t415.length:Int)=(t418.length:Int)
  ·rw [if_pos c7] at H;have c7b0:((t415.length:Int) == (t418.length:Int))=true:=beq_iff_eq.mpr c7;have c7b1:((t415.length:Int) != (t418.length:Int))=false:=bne_eq_false_iff_eq.mpr c7;have c7b2:(t415.length == t418.length)=true:=(by first|simpa using c7|(simp at c7 ⊢;omega));clear c7;obtain ⟨t421,A8,H⟩:=bz H;have HC9:=aM H;clear H;go_enter Try.func13,Try.ntmps13;go_upto_region 8 with (first|((with_reducible refine gate_callee (f:=23) rfl ?_);refine gm (some 9) Try.func23 #[.slice A0 l0.length c0] ?_;(with_reducible refine (laws_big.calls _ _ l0 false _ ?side1 ?side2 A2.out).mono ?_);(case side1=>exact zc HR0.out);(case side2=>exact HC0.out);rintro e w' ⟨rfl,⟨nd,rfl⟩⟩;refine ⟨_,rfl,?_⟩)|((with_reducible refine gate_callee (f:=54) rfl ?_);refine gm (some 12) Try.func54 #[.slice A0 l0.length c0] ?_;(with_reducible refine (spec_DrawNullVector.calls k _ _ l0 t409 t410 _ ?side1 ?side2 A4.out).mono ?_);(case side1=>exact zc HR0.out);(case side2=>exact HC0.out);rintro e w10 ⟨v411,v413,rfl,ho0,ho1,hb⟩;refine ⟨_,rfl,?_⟩;have HO412:=aM (Kd.S_lower ho0 (below_size (zb HB.out)));have HO414:=aM (Kd.R_lower ho1 (below_size (zb HB.out)));replace HB:=aM (below_step (zb HB.out) hb);(try clear hb);(try clear hb2);(try clear hk);(try clear hi);(try clear ho0);(try clear ho1);obtain ⟨Ao11,co11,eo11⟩:=Kd.S_slice HO412.out;subst eo11;obtain ⟨Ao12,co12,eo12⟩:=Kd.R_slice HO414.out;subst eo12)|((with_reducible refine gate_callee (f:=42) rfl ?_);refine gm (some 17) Try.func42 #[.slice Ao11 t409.length co11,.slice Ao12 t410.length co12] ?_;(with_reducible refine (impl_NullVector.calls k _ _ t409 _ _ t410 t415 _ ?side1 ?side2 ?side3 ?side4 A5.out).mono ?_);(case side1=>exact zc (Kd.S_reads' HO412.out).2.2);(case side2=>exact (Kd.S_reads' HO412.out).2.1);(case side3=>exact zc (Kd.R_reads' HO414.out).2.2);(case side4=>exact (Kd.R_reads' HO414.out).2.1);rintro e w13 ⟨v416,rfl,ho0,hb⟩;refine ⟨_,rfl,?_⟩;replace HO412:=aM (Kd.S_elder' (by (with_reducible repeat (first|apply Kd.S_alloc|apply Kd.S_drewN|apply Kd.S_drew));exact HO412.out) (Kd.R_base ho0) hb);have HO417:=aM (Kd.R_lower (Kd.R_new' ho0 (Kd.R_lt (zr HO414.out))) (below_size (zb HB.out)));replace HO414:=aM (Kd.R_elder' (zr HO414.out) (Kd.R_base ho0) hb);replace HB:=aM (below_step (zb HB.out) hb);(try clear hb);(try clear hb2);(try clear hk);(try clear hi);(try clear ho0);obtain ⟨Ao14,co14,eo14⟩:=Kd.R_slice HO417.out;subst eo14)|((with_reducible refine gate_callee (f:=52) rfl ?_);refine gm (some 22) Try.func52 #[.slice Ao11 t409.length co11,.slice Ao12 t410.length co12] ?_;(with_reducible refine (spec_NullVector.calls k _ _ t409 _ _ t410 t418 _ ?side1 ?side2 ?side3 ?side4 A6.out).mono ?_);(case side1=>exact zc (Kd.S_reads' HO412.out).2.2);(case side2=>exact (Kd.S_reads' HO412.out).2.1);(case side3=>exact zc (Kd.R_reads' HO414.out).2.2);(case side4=>exact (Kd.R_reads' HO414.out).2.1);rintro e w15 ⟨v419,rfl,ho0,hb⟩;refine ⟨_,rfl,?_⟩;replace HO412:=aM (Kd.S_elder' (by (with_reducible repeat (first|apply Kd.S_alloc|apply Kd.S_drewN|apply Kd.S_drew));exact HO412.out) (Kd.R_base ho0) hb);have HO420:=aM (Kd.R_lower (Kd.R_new' (Kd.R_new' ho0 (Kd.R_lt (zr HO414.out))) (Kd.R_lt (zr HO417.out))) (below_size (zb HB.out)));replace HO414:=aM (Kd.R_elder' (zr HO414.out) (Kd.R_base ho0) hb);replace HO417:=aM (Kd.R_elder' (zr HO417.out) (Kd.R_base ho0) hb);replace HB:=aM (below_step (zb HB.out) hb);(try clear hb);(try clear hb2);(try clear hk);(try clear hi);(try clear ho0);obtain ⟨Ao16,co16,eo16⟩:=Kd.R_slice HO420.out;subst eo16)|((with_reducible refine gate_callee (f:=30) rfl ?_);refine gm (some 27) Try.func30 #[.slice Ao11 t409.length co11,.slice Ao12 t410.length co12] ?_;(with_reducible refine (impl_IsInSpan.calls k _ _ t409 _ _ t410 t421 _ ?side1 ?side2 ?side3 ?side4 A8.out).mono ?_);(case side1=>exact zc (Kd.S_reads' HO412.out).2.2);(case side2=>exact (Kd.S_reads' HO412.out).2.1);(case side3=>exact zc (Kd.R_reads' HO414.out).2.2);(case side4=>exact (Kd.R_reads' HO414.out).2.1);rintro e w17 ⟨rfl,hb⟩;refine ⟨_,rfl,?_⟩;replace HO412:=aM (Kd.S_below (by (with_reducible repeat (first|apply Kd.S_alloc|apply Kd.S_drewN|apply Kd.S_drew));exact HO412.out) hb);replace HO414:=aM (Kd.R_below (zr HO414.out) hb);replace HO417:=aM (Kd.R_below (zr HO417.out) hb);replace HO420:=aM (Kd.R_below (zr HO420.out) hb);replace HB:=aM (below_step (zb HB.out) hb);(try clear hb);(try clear hb2);(try clear hk);(try clear hi)))
   (try simp only [Act.put,qa,qz,qs]);go_cut [45] (fun v45 wc=>∃(kq:Nat) (x45_8:Bool),v45 = .bool x45_8∧Aside0 (laws_FnSpan.j0 kq t409 t410 t415 t421 x45_8=some r)∧Aside0 (kq≤k)∧Aside0 (Kd.S (Kd.slice 3 (Kd.int .i64)) 23 wc w.heap.size (fun k_=>some k_≠((.slice Ao12 t410.length co12):Value).ownBlock∧some k_≠((.slice Ao14 t415.length co14):Value).ownBlock) (.slice Ao11 t409.length co11) t409)∧Aside0 (Kd.R (Kd.int .i64) 3 wc w.heap.size (fun k_=>some k_≠((.slice Ao14 t415.length co14):Value).ownBlock) (.slice Ao12 t410.length co12) t410)∧Aside0 (Kd.R (Kd.int .i64) 3 wc w.heap.size (fun k_=>some k_≠((.slice Ao12 t410.length co12):Value).ownBlock) (.slice Ao14 t415.length co14) t415)∧Aside0 (Below w.heap.size w wc))
   case first=>
    have H:=HC9.out;clear HC9;by_cases c18:(t410.length:Int)=0
    ·rw [if_pos c18] at H;have c18b0:((t410.length:Int) == 0)=true:=beq_iff_eq.mpr c18;have c18b1:((t410.length:Int) != 0)=false:=bne_eq_false_iff_eq.mpr c18;clear c18;(first|rw [c18b0]|(simp only [i64_w,i32_w];rw [c18b0])|skip);have H':=aM H;clear H;go_wp2;go_meet;(case rel=>exact ⟨_,(true),zt,H',⟨by first|omega|exact Nat.le_refl _⟩,⟨by (with_reducible repeat (first|apply Kd.S_alloc|apply Kd.S_drewN|apply Kd.S_drew));exact Kd.S_mono HO412.out (fun _ hk=>⟨hk.1.1,hk.1.2⟩)⟩,⟨by (with_reducible repeat (first|apply Kd.R_alloc|apply Kd.R_drewN|apply Kd.R_drew));exact Kd.R_mono HO414.out (fun _ hk=>hk.1.2)⟩,⟨by (with_reducible repeat (first|apply Kd.R_alloc|apply Kd.R_drewN|apply Kd.R_drew));exact Kd.R_mono HO417.out (fun _ hk=>hk.1.2)⟩,⟨zb HB.out⟩⟩)
    ·rw [if_neg c18] at H;have c18b0:((t410.length:Int) == 0)=false:=beq_eq_false_iff_ne.mpr c18;have c18b1:((t410.length:Int) != 0)=true:=bne_iff_ne.mpr c18;have c18b2:¬(t410=[]):=fun h_=>c18 (by rw [h_];rfl);(first|rw [c18b0]|(simp only [i64_w,i32_w];rw [c18b0])|skip);obtain ⟨t422,A19,H⟩:=bz H;by_cases c20:t422=true
     ·subst c20;replace H:=ifT H;obtain ⟨t423,A21,H⟩:=bz H;have H':=aM H;clear H;go_wp2_with (first|(go_at_call 40;(with_reducible refine (impl_IsMatrix.calls k _ _ t409 (t410.length:Int) true _ ?side1 ?side2 A19.out).mono ?_);(case side1=>exact zc (Kd.S_reads' HO412.out).2.2);(case side2=>exact (Kd.S_reads' HO412.out).2.1);rintro e w' ⟨rfl,⟨nd,rfl⟩⟩)|(go_at_call 40;refine (impl_IsMatrix.calls k _ _ ([t410]:List (List Int)) (t410.length:Int) t423 _ ?side1 ?side2 A21.out).mono ?_;(case side1=>exact YtojkepidkmkmpaaRed.one_C (by exact zc (Kd.R_reads' HO414.out).2.2) (Kd.R_reads' HO414.out).2.1 (YtojkepidkmkmpaaRed.cell_new _ _ _));(case side2=>exact Nat.le_refl _);rintro e w' ⟨rfl,⟨nd,rfl⟩⟩));go_meet;(case rel=>exact ⟨_,(!t423),zt,H',⟨by first|omega|exact Nat.le_refl _⟩,⟨by (with_reducible repeat (first|apply Kd.S_alloc|apply Kd.S_drewN|apply Kd.S_drew));exact Kd.S_mono HO412.out (fun _ hk=>⟨hk.1.1,hk.1.2⟩)⟩,⟨by (with_reducible repeat (first|apply Kd.R_alloc|apply Kd.R_drewN|apply Kd.R_drew));exact Kd.R_mono HO414.out (fun _ hk=>hk.1.2)⟩,⟨by (with_reducible repeat (first|apply Kd.R_alloc|apply Kd.R_drewN|apply Kd.R_drew));exact Kd.R_mono HO417.out (fun _ hk=>hk.1.2)⟩,⟨zb HB.out⟩⟩)
     ·replace c20:=Bool.eq_false_iff.mpr c20;subst c20;replace H:=ifF H;have H':=aM H;clear H;go_wp2_with (first|(go_at_call 40;(with_reducible refine (impl_IsMatrix.calls k _ _ t409 (t410.length:Int) false _ ?side1 ?side2 A19.out).mono ?_);(case side1=>exact zc (Kd.S_reads' HO412.out).2.2);(case side2=>exact (Kd.S_reads' HO412.out).2.1);rintro e w' ⟨rfl,⟨nd,rfl⟩⟩));go_meet;(case rel=>exact ⟨_,(true),zt,H',⟨by first|omega|exact Nat.le_refl _⟩,⟨by (with_reducible repeat (first|apply Kd.S_alloc|apply Kd.S_drewN|apply Kd.S_drew));exact Kd.S_mono HO412.out (fun _ hk=>⟨hk.1.1,hk.1.2⟩)⟩,⟨by (with_reducible repeat (first|apply Kd.R_alloc|apply Kd.R_drewN|apply Kd.R_drew));exact Kd.R_mono HO414.out (fun _ hk=>hk.1.2)⟩,⟨by (with_reducible repeat (first|apply Kd.R_alloc|apply Kd.R_drewN|apply Kd.R_drew));exact Kd.R_mono HO417.out (fun _ hk=>hk.1.2)⟩,⟨zb HB.out⟩⟩)
   case rest=>
    clear HC9;(try clear c1);(try clear c2);(try clear p2);(try clear c3);(try clear c4);(try clear c5);(try clear c7);(try clear c7b0);(try clear c7b1);(try clear c7b2);(try clear c13);(try clear c18);(try clear c18b0);(try clear c18b1);(try clear c18b2);(try clear c20);obtain ⟨kq,x45_8,rfl,HA,HJ8,HO_3,HO_4,HO_5,HB⟩:=hcut;cases kq with
    | zero=>exact absurd HA.out (by simp [laws_FnSpan.j0])
    | succ kj8=>
     have H:=HA.out;clear HA;simp only [laws_FnSpan.j0] at H;by_cases c22:x45_8=true
     ·subst c22;replace H:=ifT H;by_cases c23:t421=true
      ·subst c23;replace H:=ifT H;obtain rfl:=Option.some.inj H;go_wp2;go_ret;exact ⟨by first|rfl|(simp [errW_none,errW_some]<;>rfl)|(simp [*,errW_none,errW_some]<;>rfl),zb HB.out⟩
      ·replace c23:=Bool.eq_false_iff.mpr c23;subst c23;replace H:=ifF H;obtain rfl:=Option.some.inj H;go_wp2;go_ret;exact ⟨by first|rfl|(simp [errW_none,errW_some]<;>rfl)|(simp [*,errW_none,errW_some]<;>rfl),zb HB.out⟩
     ·replace c22:=Bool.eq_false_iff.mpr c22;subst c22;replace H:=ifF H;by_cases c24:t421=true
      ·subst c24;replace H:=ifT H;obtain rfl:=Option.some.inj H;go_wp2;go_ret;exact ⟨by first|rfl|(simp [errW_none,errW_some]<;>rfl)|(simp [*,errW_none,errW_some]<;>rfl),zb HB.out⟩
      ·replace c24:=Bool.eq_false_iff.mpr c24;subst c24;replace H:=ifF H;have H':=aM H;clear H;go_wp2;go_loopg [7] kj8 (fun kq v7 w'=>∃(x7_2:Int),v7 = .int .i64 x7_2∧Aside0 (laws_FnSpan.l0 kq t409 t410 t415 x7_2=some r)∧Aside0 (kq≤kj8)∧Aside0 (Kd.S (Kd.slice 3 (Kd.int .i64)) 23 w' w.heap.size (fun k_=>some k_≠((.slice Ao12 t410.length co12):Value).ownBlock∧some k_≠((.slice Ao14 t415.length co14):Value).ownBlock) (.slice Ao11 t409.length co11) t409)∧Aside0 (Kd.R (Kd.int .i64) 3 w' w.heap.size (fun k_=>some k_≠((.slice Ao14 t415.length co14):Value).ownBlock) (.slice Ao12 t410.length co12) t410)∧Aside0 (Kd.R (Kd.int .i64) 3 w' w.heap.size (fun k_=>some k_≠((.slice Ao12 t410.length co12):Value).ownBlock) (.slice Ao14 t415.length co14) t415)∧Aside0 (Below w.heap.size w w'));(case atStart=>exact ⟨(0),zt,H',⟨Nat.le_refl _⟩,⟨by (with_reducible repeat (first|apply Kd.S_alloc|apply Kd.S_drewN|apply Kd.S_drew));exact HO_3.out⟩,⟨zr HO_4.out⟩,⟨zr HO_5.out⟩,⟨zb HB.out⟩⟩)
       case round=>
        clear H';(try clear c1);(try clear c2);(try clear p2);(try clear c3);(try clear c4);(try clear c5);(try clear c7);(try clear c7b0);(try clear c7b1);(try clear c7b2);(try clear c13);(try clear c18);(try clear c18b0);(try clear c18b1);(try clear c18b2);(try clear c20);(try clear c22);(try clear c23);(try clear c24);(try clear p2);obtain ⟨x7_2,rfl,HA,HK2,HO_3,HO_4,HO_5,HB⟩:=hrel;cases gk with
        | zero=>exact absurd HA.out (by simp [laws_FnSpan.l0])
        | succ k2=>
         have H:=HA.out;clear HA;simp only [laws_FnSpan.l0] at H;by_cases c25:x7_2<(t409.length:Int)
         ·rw [if_pos c25] at H;have c25b0:decide (x7_2<(t409.length:Int))=true:=decide_eq_true c25;clear c25;obtain ⟨c26b0,H⟩:=iN H;obtain ⟨t425,A27,H⟩:=bz H;by_cases c28:t425=0
          ·rw [if_pos c28] at H;have c28b0:(t425 == 0)=true:=beq_iff_eq.mpr c28;have c28b1:(t425 != 0)=false:=bne_eq_false_iff_eq.mpr c28;clear c28;have H':=aM H;clear H;have p424:0≤(x7_2:Int):=zd;have q424:x7_2<(t409.length:Int):=zd;obtain ⟨ad424,A424_0,c424_0,e424,hx424_0,hl424_0,hi424_0⟩:=at_L1 (Kd.S_reads' HO_3.out).2.2 x7_2 p424 q424;cases e424;obtain ⟨ce424,hce424,hMe424,hcc424⟩:=Kd.S_get HO_3.out [] x7_2 p424 (by first|exact q424|exact zd|(have e_:=(Kd.S_reads' HO_3.out).1;omega));obtain ⟨ve424_0,rfl,ge424_0⟩:=hMe424;have hv424_0:=hcc424 0 _ rfl;rw [Nat.add_zero,show ((Kd.slice 3 (Kd.int .i64))).sz=1 from rfl,Nat.mul_one] at hv424_0;replace hv424_0:=Option.some.inj (hv424_0.symm.trans hx424_0);rw [hv424_0] at ge424_0;have HL424_0:=aM (show Kd.R (Kd.int .i64) 3 _ _ _ _ (rd_L1 t409 x7_2) from ge424_0);clear hv424_0 ge424_0 hcc424 hce424;have HR424_0:=aM hi424_0;have HC424_0:=aM hl424_0;clear hi424_0 hl424_0;replace p424:=eq_true p424;replace q424:=eq_true q424;go_wp2_with (first|((with_reducible refine gate_callee (f:=55) rfl ?_);refine gm (some 68) Try.func55 #[.slice A424_0 (rd_L1 t409 x7_2).length c424_0,.slice Ao14 t415.length co14] ?_;(with_reducible refine (impl_DotOf.calls k2 _ _ (rd_L1 t409 x7_2) _ _ t415 t425 _ ?side1 ?side2 ?side3 ?side4 A27.out).mono ?_);(case side1=>exact zc HR424_0.out);(case side2=>exact HC424_0.out);(case side3=>exact zc (Kd.R_reads' HO_5.out).2.2);(case side4=>exact (Kd.R_reads' HO_5.out).2.1);rintro e w29 ⟨rfl,hb⟩;refine ⟨_,rfl,?_⟩;replace HO_3:=aM (Kd.S_below (by (with_reducible repeat (first|apply Kd.S_alloc|apply Kd.S_drewN|apply Kd.S_drew));exact HO_3.out) hb);replace HO_4:=aM (Kd.R_below (zr HO_4.out) hb);replace HO_5:=aM (Kd.R_below (zr HO_5.out) hb);replace HL424_0:=aM (Kd.R_below (zr HL424_0.out) hb);replace HR424_0:=aM (Kd.C_below (zc HR424_0.out) hb);replace HB:=aM (below_step (zb HB.out) hb);(try clear hb);(try clear hb2);(try clear hk);(try clear hi)));go_roundg k2;(case measure=>have:=HJ8.out;have:=HK2.out;omega);(case rel=>exact ⟨(wrap64 (x7_2+1)),zt,H',⟨by have:=HJ8.out;have:=HK2.out;omega⟩,⟨by (with_reducible repeat (first|apply Kd.S_alloc|apply Kd.S_drewN|apply Kd.S_drew));exact HO_3.out⟩,⟨zr HO_4.out⟩,⟨zr HO_5.out⟩,⟨zb HB.out⟩⟩)
          ·rw [if_neg c28] at H;have c28b0:(t425 == 0)=false:=beq_eq_false_iff_ne.mpr c28;have c28b1:(t425 != 0)=true:=bne_iff_ne.mpr c28;obtain rfl:=Option.some.inj H;have p424:0≤(x7_2:Int):=zd;have q424:x7_2<(t409.length:Int):=zd;obtain ⟨ad424,A424_0,c424_0,e424,hx424_0,hl424_0,hi424_0⟩:=at_L1 (Kd.S_reads' HO_3.out).2.2 x7_2 p424 q424;cases e424;obtain ⟨ce424,hce424,hMe424,hcc424⟩:=Kd.S_get HO_3.out [] x7_2 p424 (by first|exact q424|exact zd|(have e_:=(Kd.S_reads' HO_3.out).1;omega));obtain ⟨ve424_0,rfl,ge424_0⟩:=hMe424;have hv424_0:=hcc424 0 _ rfl;rw [Nat.add_zero,show ((Kd.slice 3 (Kd.int .i64))).sz=1 from rfl,Nat.mul_one] at hv424_0;replace hv424_0:=Option.some.inj (hv424_0.symm.trans hx424_0);rw [hv424_0] at ge424_0;have HL424_0:=aM (show Kd.R (Kd.int .i64) 3 _ _ _ _ (rd_L1 t409 x7_2) from ge424_0);clear hv424_0 ge424_0 hcc424 hce424;have HR424_0:=aM hi424_0;have HC424_0:=aM hl424_0;clear hi424_0 hl424_0;replace p424:=eq_true p424;replace q424:=eq_true q424;go_wp2_with (first|((with_reducible refine gate_callee (f:=55) rfl ?_);refine gm (some 68) Try.func55 #[.slice A424_0 (rd_L1 t409 x7_2).length c424_0,.slice Ao14 t415.length co14] ?_;(with_reducible refine (impl_DotOf.calls k2 _ _ (rd_L1 t409 x7_2) _ _ t415 t425 _ ?side1 ?side2 ?side3 ?side4 A27.out).mono ?_);(case side1=>exact zc HR424_0.out);(case side2=>exact HC424_0.out);(case side3=>exact zc (Kd.R_reads' HO_5.out).2.2);(case side4=>exact (Kd.R_reads' HO_5.out).2.1);rintro e w30 ⟨rfl,hb⟩;refine ⟨_,rfl,?_⟩;replace HO_3:=aM (Kd.S_below (by (with_reducible repeat (first|apply Kd.S_alloc|apply Kd.S_drewN|apply Kd.S_drew));exact HO_3.out) hb);replace HO_4:=aM (Kd.R_below (zr HO_4.out) hb);replace HO_5:=aM (Kd.R_below (zr HO_5.out) hb);replace HL424_0:=aM (Kd.R_below (zr HL424_0.out) hb);replace HR424_0:=aM (Kd.C_below (zc HR424_0.out) hb);replace HB:=aM (below_step (zb HB.out) hb);(try clear hb);(try clear hb2);(try clear hk);(try clear hi)));go_ret;exact ⟨by first|rfl|(simp [errW_none,errW_some]<;>rfl)|(simp [*,errW_none,errW_some]<;>rfl),zb HB.out⟩
         ·rw [if_neg c25] at H;have c25b0:decide (x7_2<(t409.length:Int))=false:=decide_eq_false c25;clear c25;by_cases c31:(t415.length:Int)=(t410.length:Int)
          ·rw [if_pos c31] at H;have c31b0:((t415.length:Int) == (t410.length:Int))=true:=beq_iff_eq.mpr c31;have c31b1:((t415.length:Int) != (t410.length:Int))=false:=bne_eq_false_iff_eq.mpr c31;have c31b2:(t415.length == t410.length)=true:=(by first|simpa using c31|(simp at c31 ⊢;omega));clear c31;obtain ⟨t426,A32,H⟩:=bz H;obtain rfl:=Option.some.inj H;go_wp2_with (first|(go_at_call 55;(with_reducible refine (impl_DotOf.calls k2 _ _ t410 _ _ t415 t426 _ ?side1 ?side2 ?side3 ?side4 A32.out).mono ?_);(case side1=>exact zc (Kd.R_reads' HO_4.out).2.2);(case side2=>exact (Kd.R_reads' HO_4.out).2.1);(case side3=>exact zc (Kd.R_reads' HO_5.out).2.2);(case side4=>exact (Kd.R_reads' HO_5.out).2.1);rintro e w33 ⟨rfl,hb⟩;replace HO_3:=aM (Kd.S_below (by (with_reducible repeat (first|apply Kd.S_alloc|apply Kd.S_drewN|apply Kd.S_drew));exact HO_3.out) hb);replace HO_4:=aM (Kd.R_below (zr HO_4.out) hb);replace HO_5:=aM (Kd.R_below (zr HO_5.out) hb);replace HB:=aM (below_step (zb HB.out) hb);(try clear hb);(try clear hb2);(try clear hk);(try clear hi)));go_ret;exact ⟨by first|rfl|(simp [errW_none,errW_some]<;>rfl)|(simp [*,errW_none,errW_some]<;>rfl),zb HB.out⟩
          ·rw [if_neg c31] at H;have c31b0:((t415.length:Int) == (t410.length:Int))=false:=beq_eq_false_iff_ne.mpr c31;have c31b1:((t415.length:Int) != (t410.length:Int))=true:=bne_iff_ne.mpr c31;have c31b2:(t415.length == t410.length)=false:=(by first|simpa using c31|(simp at c31 ⊢;omega));obtain rfl:=Option.some.inj H;go_wp2;go_ret;exact ⟨by first|rfl|(simp [errW_none,errW_some]<;>rfl)|(simp [*,errW_none,errW_some]<;>rfl),zb HB.out⟩
  ·rw [if_neg c7] at H;have c7b0:((t415.length:Int) == (t418.length:Int))=false:=beq_eq_false_iff_ne.mpr c7;have c7b1:((t415.length:Int) != (t418.length:Int))=true:=bne_iff_ne.mpr c7;have c7b2:(t415.length == t418.length)=false:=(by first|simpa using c7|(simp at c7 ⊢;omega));obtain rfl:=Option.some.inj H;go_enter Try.func13,Try.ntmps13;go_wp2_with (first|((with_reducible refine gate_callee (f:=23) rfl ?_);refine gm (some 9) Try.func23 #[.slice A0 l0.length c0] ?_;(with_reducible refine (laws_big.calls _ _ l0 false _ ?side1 ?side2 A2.out).mono ?_);(case side1=>exact zc HR0.out);(case side2=>exact HC0.out);rintro e w' ⟨rfl,⟨nd,rfl⟩⟩;refine ⟨_,rfl,?_⟩)|((with_reducible refine gate_callee (f:=54) rfl ?_);refine gm (some 12) Try.func54 #[.slice A0 l0.length c0] ?_;(with_reducible refine (spec_DrawNullVector.calls k _ _ l0 t409 t410 _ ?side1 ?side2 A4.out).mono ?_);(case side1=>exact zc HR0.out);(case side2=>exact HC0.out);rintro e w34 ⟨v411,v413,rfl,ho0,ho1,hb⟩;refine ⟨_,rfl,?_⟩;have HO412:=aM (Kd.S_lower ho0 (below_size (zb HB.out)));have HO414:=aM (Kd.R_lower ho1 (below_size (zb HB.out)));replace HB:=aM (below_step (zb HB.out) hb);(try clear hb);(try clear hb2);(try clear hk);(try clear hi);(try clear ho0);(try clear ho1);obtain ⟨Ao35,co35,eo35⟩:=Kd.S_slice HO412.out;subst eo35;obtain ⟨Ao36,co36,eo36⟩:=Kd.R_slice HO414.out;subst eo36)|((with_reducible refine gate_callee (f:=42) rfl ?_);refine gm (some 17) Try.func42 #[.slice Ao35 t409.length co35,.slice Ao36 t410.length co36] ?_;(with_reducible refine (impl_NullVector.calls k _ _ t409 _ _ t410 t415 _ ?side1 ?side2 ?side3 ?side4 A5.out).mono ?_);(case side1=>exact zc (Kd.S_reads' HO412.out).2.2);(case side2=>exact (Kd.S_reads' HO412.out).2.1);(case side3=>exact zc (Kd.R_reads' HO414.out).2.2);(case side4=>exact (Kd.R_reads' HO414.out).2.1);rintro e w37 ⟨v416,rfl,ho0,hb⟩;refine ⟨_,rfl,?_⟩;replace HO412:=aM (Kd.S_elder' (by (with_reducible repeat (first|apply Kd.S_alloc|apply Kd.S_drewN|apply Kd.S_drew));exact HO412.out) (Kd.R_base ho0) hb);have HO417:=aM (Kd.R_lower (Kd.R_new' ho0 (Kd.R_lt (zr HO414.out))) (below_size (zb HB.out)));replace HO414:=aM (Kd.R_elder' (zr HO414.out) (Kd.R_base ho0) hb);replace HB:=aM (below_step (zb HB.out) hb);(try clear hb);(try clear hb2);(try clear hk);(try clear hi);(try clear ho0);obtain ⟨Ao38,co38,eo38⟩:=Kd.R_slice HO417.out;subst eo38)|((with_reducible refine gate_callee (f:=52) rfl ?_);refine gm (some 22) Try.func52 #[.slice Ao35 t409.length co35,.slice Ao36 t410.length co36] ?_;(with_reducible refine (spec_NullVector.calls k _ _ t409 _ _ t410 t418 _ ?side1 ?side2 ?side3 ?side4 A6.out).mono ?_);(case side1=>exact zc (Kd.S_reads' HO412.out).2.2);(case side2=>exact (Kd.S_reads' HO412.out).2.1);(case side3=>exact zc (Kd.R_reads' HO414.out).2.2);(case side4=>exact (Kd.R_reads' HO414.out).2.1);rintro e w39 ⟨v419,rfl,ho0,hb⟩;refine ⟨_,rfl,?_⟩;replace HO412:=aM (Kd.S_elder' (by (with_reducible repeat (first|apply Kd.S_alloc|apply Kd.S_drewN|apply Kd.S_drew));exact HO412.out) (Kd.R_base ho0) hb);have HO420:=aM (Kd.R_lower (Kd.R_new' (Kd.R_new' ho0 (Kd.R_lt (zr HO414.out))) (Kd.R_lt (zr HO417.out))) (below_size (zb HB.out)));replace HO414:=aM (Kd.R_elder' (zr HO414.out) (Kd.R_base ho0) hb);replace HO417:=aM (Kd.R_elder' (zr HO417.out) (Kd.R_base ho0) hb);replace HB:=aM (below_step (zb HB.out) hb);(try clear hb);(try clear hb2);(try clear hk);(try clear hi);(try clear ho0);obtain ⟨Ao40,co40,eo40⟩:=Kd.R_slice HO420.out;subst eo40));go_ret;exact ⟨by first|rfl|(simp [errW_none,errW_some]<;>rfl)|(simp [*,errW_none,errW_some]<;>rfl),zb HB.out⟩
def laws_FnSpan.Pure : Prop := ∀ (l0 : List Int), l0.length ≤ maxLen → l0.length * 1 ≤ 140737488351232 → (∀ x ∈ l0, (Lit.int .u8 x).wf = true) → ∃ k, laws_FnSpan.f k l0 = some true
theorem laws_FnSpan.walk (P : laws_FnSpan.Pure) (a0 : Option Addr) (len0 cap0 : Nat) (z0 : List Int) (w : World) (w0 : (a0 = none ∧ len0 = 0 ∧ cap0 = 0 ∧ z0 = []) ∨ ∃ x, a0 = some x ∧ len0 ≤ cap0 ∧ cap0 ≤ maxLen ∧ z0.length = cap0 ∧ (∀ i, i < z0.length → w.cell? (x.add i) = some (.int .u8 (z0.getD i 0))) ∧ ∀ n ∈ z0, (Lit.int .u8 n).wf = true) (y0 : len0 * 1 ≤ 140737488351232) :
  Calls Try.prog 13 #[.slice a0 len0 cap0] w fun e w' => e = .returned (.bool true) ∧ Below w.heap.size w w' := by
 obtain ⟨l0, rfl, hr0, hm0, hw0, hc0⟩ := ReadsInt.ofRowC w0
 obtain ⟨k, h⟩ := P l0 hm0 y0 hw0
 refine (laws_FnSpan.calls k _ _ l0 true w (Kd.C_of_reads (d := (0 : Int)) (h1 := fun _ => rfl) hr0) hc0 h).mono ?_
 rintro e w' ⟨rfl, hd⟩
 exact ⟨rfl, hd⟩
end Go.Proofs.Ytojkepidkmkmpaa.PFnSpan
end
section
namespace Go.Proofs.YtojkepidkmkmpaaAlg
abbrev V := Nat → Int
inductive Sp (S : V → Prop) : V → Prop
 | of {v : V} : S v → Sp S v
 | zero : Sp S (fun _ => 0)
 | add {u v : V} : Sp S u → Sp S v → Sp S (fun j => u j + v j)
 | smul {u : V} (c : Int) : Sp S u → Sp S (fun j => c * u j)
 | div {u : V} (c : Int) : c ≠ 0 → Sp S (fun j => c * u j) → Sp S u
theorem Sp.congr {S : V → Prop} {u v : V} (h : Sp S u) (e : ∀ j, u j = v j) : Sp S v := by
 have : u = v := funext e
 rwa [← this]
theorem Sp.trans {S T : V → Prop} {v : V} (h : Sp S v) (k : ∀ v, S v → Sp T v) : Sp T v := by
 induction h with
 | of h => exact k _ h
 | zero => exact Sp.zero
 | add _ _ h1 h2 => exact Sp.add h1 h2
 | smul c _ h => exact Sp.smul c h
 | div c hc _ h => exact Sp.div c hc h
theorem Sp.mono {S T : V → Prop} {v : V} (h : Sp S v) (k : ∀ v, S v → T v) : Sp T v := h.trans fun v hv => Sp.of (k v hv)
theorem Sp.comb {S : V → Prop} {u v : V} (a b : Int) (h : Sp S u) (k : Sp S v) : Sp S (fun j => a * u j + b * v j) := Sp.add (Sp.smul a h) (Sp.smul b k)
theorem Sp.sub {S : V → Prop} {u v : V} (a b : Int) (h : Sp S u) (k : Sp S v) : Sp S (fun j => a * u j - b * v j) :=
 (Sp.comb a (-b) h k).congr fun j => by rw [Int.neg_mul, ← Int.sub_eq_add_neg]
theorem Sp.kill {S : V → Prop} {v : V} (h : Sp S v) (φ : V → Int) (h0 : φ (fun _ => 0) = 0) (ha : ∀ u v, φ (fun j => u j + v j) = φ u + φ v)
  (hm : ∀ c u, φ (fun j => c * u j) = c * φ u) (hS : ∀ v, S v → φ v = 0) : φ v = 0 := by
 induction h with
 | of h => exact hS _ h
 | zero => exact h0
 | add _ _ h1 h2 => rw [ha, h1, h2]; rfl
 | smul c _ h => rw [hm, h, Int.mul_zero]
 | div c hc _ h =>
  rw [hm] at h
  exact (Int.mul_eq_zero.1 h).resolve_left hc
theorem Sp.split {T : V → Prop} {o v : V} (h : Sp (fun u => u = o ∨ T u) v) : ∃ a b : Int, a ≠ 0 ∧ Sp T (fun j => a * v j - b * o j) := by
 induction h with
|of h =>
  rcases h with rfl|h
  ·exact ⟨1, 1, by decide, Sp.zero.congr fun j => by simp⟩
  ·exact ⟨1, 0, by decide, (Sp.of h).congr fun j => by omega⟩
|zero => exact ⟨1, 0, by decide, Sp.zero.congr fun j => by simp⟩
|add _ _ h1 h2 =>
  obtain ⟨a1, b1, ha1, h1⟩ := h1
  obtain ⟨a2, b2, ha2, h2⟩ := h2
  refine ⟨a1 * a2, a2 * b1 + a1 * b2, Int.mul_ne_zero ha1 ha2, (Sp.comb a2 a1 h1 h2).congr fun j => ?_⟩
  simp only [Int.mul_sub, Int.mul_add, Int.add_mul, Int.mul_assoc, Int.mul_left_comm a2 a1]
  omega
|smul c _ h =>
  obtain ⟨a, b, ha, h⟩ := h
  refine ⟨a, c * b, ha, (Sp.smul c h).congr fun j => ?_⟩
  simp only [Int.mul_sub, Int.mul_assoc, Int.mul_left_comm]
|div c hc _ h =>
  obtain ⟨a, b, ha, h⟩ := h
  refine ⟨a * c, b, Int.mul_ne_zero ha hc, h.congr fun j => ?_⟩
  simp only [Int.mul_assoc]
def E (c : Nat) (F : List V → Int) : List V → Int
 | [] => 0
 | R :: Rs => R c * F Rs - E c (fun X => F (R :: X)) Rs
def det : List Nat → List V → Int
 | [], _ => 1
 | c :: cs, Rs => E c (det cs) Rs
theorem E_lin (c : Nat) (k l : Int) : ∀ (Rs : List V) (F G : List V → Int), E c (fun X => k * F X - l * G X) Rs = k * E c F Rs - l * E c G Rs
 | [], F, G => by simp [E]
 | R :: Rs, F, G => by
  simp only [E]
  rw [E_lin c k l Rs (fun X => F (R :: X)) (fun X => G (R :: X))]
  simp only [Int.mul_sub, Int.mul_left_comm (R c)]
  omega
theorem E_smul (c : Nat) (k : Int) (Rs : List V) (F : List V → Int) : E c (fun X => k * F X) Rs = k * E c F Rs := by
 have := E_lin c k 0 Rs F F
 simpa using this
theorem E_zero (c : Nat) (Rs : List V) : E c (fun _ => 0) Rs = 0 := by
 have := E_smul c 0 Rs (fun _ => 0)
 simpa using this
theorem E_swap (a b : Nat) : ∀ (Rs : List V) (F : List V → Int), E a (fun X => E b F X) Rs = - E b (fun X => E a F X) Rs
 | [], F => by simp [E]
 | R :: Rs, F => by
  have h1 : E a (fun X => E b F (R :: X)) Rs = R b * E a F Rs - E a (fun X => E b (fun Y => F (R :: Y)) X) Rs := by
   have := E_lin a (R b) 1 Rs F (fun X => E b (fun Y => F (R :: Y)) X)
   simpa [E] using this
  have h2 : E b (fun X => E a F (R :: X)) Rs = R a * E b F Rs - E b (fun X => E a (fun Y => F (R :: Y)) X) Rs := by
   have := E_lin b (R a) 1 Rs F (fun X => E a (fun Y => F (R :: Y)) X)
   simpa [E] using this
  have h3 := E_swap a b Rs (fun Y => F (R :: Y))
  show R a * E b F Rs - E a (fun X => E b F (R :: X)) Rs = -(R b * E a F Rs - E b (fun X => E a F (R :: X)) Rs)
  rw [h1, h2, h3]
  omega
theorem det_dup (cs : List Nat) : ∀ (c : Nat), c ∈ cs → ∀ Rs, det (c :: cs) Rs = 0 := by
 induction cs with
 | nil => intro c h; simp at h
 | cons d cs ih =>
  intro c h Rs
  have hs : det (c :: d :: cs) Rs = - E d (fun X => det (c :: cs) X) Rs := E_swap c d Rs (det cs)
  by_cases e : c = d
  ·subst e
   have : det (c :: c :: cs) Rs = E c (fun X => det (c :: cs) X) Rs := rfl
   omega
  ·have hm : c ∈ cs := by simpa [e] using h
   rw [hs]
   have : (fun X => det (c :: cs) X) = fun _ => 0 := funext (ih c hm)
   rw [this, E_zero]
   rfl
theorem det_erase (cs : List Nat) : ∀ (c : Nat), c ∈ cs → ∃ ε : Int, (ε = 1 ∨ ε = -1) ∧ ∀ Rs, det (c :: cs.erase c) Rs = ε * det cs Rs := by
 induction cs with
|nil => intro c h;simp at h
|cons d cs ih =>
  intro c h
  by_cases e : c = d
  ·subst e
   exact ⟨1, .inl rfl, fun Rs => by simp⟩
  ·have hm : c ∈ cs := by simpa [e] using h
   obtain ⟨ε, he, h⟩ := ih c hm
   refine ⟨-ε, by omega, fun Rs => ?_⟩
   have e1 : (d :: cs).erase c = d :: cs.erase c := by
    rw [List.erase_cons_tail]
    simpa using fun e' => e e'.symm
   rw [e1]
   have hs : det (c :: d :: cs.erase c) Rs = - E d (fun X => det (c :: cs.erase c) X) Rs := E_swap c d Rs (det (cs.erase c))
   rw [hs]
   have : (fun X => det (c :: cs.erase c) X) = fun X => ε * det cs X := funext h
   rw [this, E_smul]
   show -(ε * det (d :: cs) Rs) = _
   rw [Int.neg_mul]
theorem E_mem (F : List V → Int) : ∀ (Rs : List V), Sp (· ∈ Rs) (fun j => E j F Rs) := by
 intro Rs
 induction Rs generalizing F with
 | nil => exact Sp.zero
 | cons R Rs ih =>
  have h1 : Sp (· ∈ R :: Rs) R := Sp.of (by simp)
  have h2 : Sp (· ∈ R :: Rs) (fun j => E j (fun X => F (R :: X)) Rs) := (ih _).mono fun v hv => by simp [hv]
  exact (Sp.sub (F Rs) 1 h1 h2).congr fun j => by simp only [E, Int.one_mul, Int.mul_comm]
theorem det_head (cs : List Nat) (o : V) (Rs : List V) : Sp (· ∈ Rs) (fun j => det (j :: cs) (o :: Rs) - det cs Rs * o j) := by
 have h := E_mem (fun X => det cs (o :: X)) Rs
 refine (Sp.smul (-1) h).congr fun j => ?_
 simp only [det, E]
 rw [Int.mul_comm (o j)]
 omega
def fct : Nat → Nat
 | 0 => 1
 | n + 1 => (n + 1) * fct n
def prod (b : Nat → Nat) : List Nat → Nat
 | [] => 1
 | c :: cs => b c * prod b cs
theorem E_bound (c : Nat) (B N : Nat) : ∀ (Rs : List V) (F : List V → Int), (∀ R ∈ Rs, (R c).natAbs ≤ B) →
  (∀ X : List V, X.length + 1 = Rs.length → (∀ R ∈ X, R ∈ Rs) → (F X).natAbs ≤ N) → (E c F Rs).natAbs ≤ Rs.length * (B * N)
 | [], F, _, _ => by simp [E]
 | R :: Rs, F, hR, hF => by
  have h1 : (R c).natAbs ≤ B := hR R (by simp)
  have h2 : (F Rs).natAbs ≤ N := hF Rs (by simp) fun x hx => by simp [hx]
  have h3 := E_bound c B N Rs (fun X => F (R :: X)) (fun x hx => hR x (by simp [hx])) fun X hX hm => hF (R :: X) (by simp [hX]) fun x hx => by
   rcases List.mem_cons.1 hx with rfl | hx
   ·simp
   ·simp [hm x hx]
  have h4 : (R c * F Rs).natAbs ≤ B * N := by rw [Int.natAbs_mul]; exact Nat.mul_le_mul h1 h2
  simp only [E, List.length_cons, Nat.add_mul, Nat.one_mul]
  omega
theorem det_bound (b : Nat → Nat) : ∀ (cs : List Nat) (Rs : List V), (∀ R ∈ Rs, ∀ c ∈ cs, (R c).natAbs ≤ b c) → Rs.length = cs.length →
  (det cs Rs).natAbs ≤ fct cs.length * prod b cs
 | [], Rs, _, _ => by simp [det, fct, prod]
 | c :: cs, Rs, hb, hl => by
  have := E_bound c (b c) (fct cs.length * prod b cs) Rs (det cs) (fun R hR => hb R hR c (by simp)) fun X hX hm =>
   det_bound b cs X (fun R hR d hd => hb R (hm R hR) d (by simp [hd])) (by simp at hl; omega)
  have e : Rs.length * (b c * (fct cs.length * prod b cs)) = fct (c :: cs).length * prod b (c :: cs) := by
   rw [hl]
   simp only [List.length_cons, fct, prod, Nat.mul_assoc, Nat.mul_left_comm]
  rw [← e]
  exact this
end Go.Proofs.YtojkepidkmkmpaaAlg
namespace Go.Proofs.YtojkepidkmkmpaaAlg
def at0 (l : List Int) : V := fun j => l.getD j 0
def sumOver {α : Type} (f : α → Int) : List α → Int
 | [] => 0
 | a :: l => f a + sumOver f l
theorem sumOver_add {α : Type} (f g : α → Int) : ∀ l, sumOver (fun a => f a + g a) l = sumOver f l + sumOver g l
 | [] => rfl
 | a :: l => by simp only [sumOver]; rw [sumOver_add f g l]; omega
theorem sumOver_mul {α : Type} (c : Int) (f : α → Int) : ∀ l, sumOver (fun a => c * f a) l = c * sumOver f l
 | [] => by simp [sumOver]
 | a :: l => by simp only [sumOver]; rw [sumOver_mul c f l, Int.mul_add]
theorem sumOver_zero {α : Type} (f : α → Int) : ∀ l : List α, (∀ a ∈ l, f a = 0) → sumOver f l = 0
 | [], _ => rfl
 | a :: l, h => by simp only [sumOver]; rw [h a (by simp), sumOver_zero f l fun x hx => h x (by simp [hx])]; rfl
theorem sumOver_congr {α : Type} (f g : α → Int) : ∀ l : List α, (∀ a ∈ l, f a = g a) → sumOver f l = sumOver g l
 | [], _ => rfl
 | a :: l, h => by simp only [sumOver]; rw [h a (by simp), sumOver_congr f g l fun x hx => h x (by simp [hx])]
def Piv (P : List (List Int × Nat)) : Prop := (P.map (·.2)).Nodup ∧ (∀ p ∈ P, at0 p.1 p.2 ≠ 0) ∧ ∀ p ∈ P, ∀ q ∈ P, p.2 ≠ q.2 → at0 p.1 q.2 = 0
theorem sumOver_one (P : List (List Int × Nat)) (f : List Int × Nat → Int) (q : List Int × Nat) (hn : (P.map (·.2)).Nodup) (hq : q ∈ P) (h0 : ∀ p ∈ P, p.2 ≠ q.2 → f p = 0) : sumOver f P = f q := by
 induction P with
 | nil => simp at hq
 | cons p P ih =>
  simp only [List.map_cons, List.nodup_cons] at hn
  simp only [sumOver]
  by_cases e : p = q
  ·subst e
   rw [sumOver_zero f P fun a ha => h0 a (by simp [ha]) fun e => hn.1 (by rw [← e]; exact List.mem_map_of_mem ha)]
   omega
  ·have hm : q ∈ P := by simpa [Ne.symm e] using hq
   rw [h0 p (by simp) fun e' => hn.1 (by rw [e']; exact List.mem_map_of_mem hm), ih hn.2 hm fun a ha => h0 a (by simp [ha])]
   omega
def res (L : Int) (P : List (List Int × Nat)) (v : V) : V := fun j => L * v j - sumOver (fun p => L / at0 p.1 p.2 * v p.2 * at0 p.1 j) P
theorem res_zero (L : Int) (P : List (List Int × Nat)) (j : Nat) : res L P (fun _ => 0) j = 0 := by
 unfold res
 rw [sumOver_zero _ _ fun p _ => by simp]
 simp
theorem res_add (L : Int) (P : List (List Int × Nat)) (u v : V) (j : Nat) : res L P (fun j => u j + v j) j = res L P u j + res L P v j := by
 unfold res
 have := sumOver_add (fun p : List Int × Nat => L / at0 p.1 p.2 * u p.2 * at0 p.1 j) (fun p => L / at0 p.1 p.2 * v p.2 * at0 p.1 j) P
 have e : sumOver (fun p : List Int × Nat => L / at0 p.1 p.2 * (u p.2 + v p.2) * at0 p.1 j) P = sumOver (fun p => L / at0 p.1 p.2 * u p.2 * at0 p.1 j + L / at0 p.1 p.2 * v p.2 * at0 p.1 j) P :=
  sumOver_congr _ _ _ fun p _ => by simp only [Int.mul_add, Int.add_mul]
 rw [e, this, Int.mul_add]
 omega
theorem res_mul (L : Int) (P : List (List Int × Nat)) (c : Int) (u : V) (j : Nat) : res L P (fun j => c * u j) j = c * res L P u j := by
 unfold res
 have := sumOver_mul c (fun p : List Int × Nat => L / at0 p.1 p.2 * u p.2 * at0 p.1 j) P
 have e : sumOver (fun p : List Int × Nat => L / at0 p.1 p.2 * (c * u p.2) * at0 p.1 j) P = sumOver (fun p => c * (L / at0 p.1 p.2 * u p.2 * at0 p.1 j)) P :=
  sumOver_congr _ _ _ fun p _ => by simp only [Int.mul_assoc, Int.mul_left_comm]
 rw [e, this, Int.mul_sub, Int.mul_left_comm]
theorem res_span {P : List (List Int × Nat)} (hP : Piv P) (L : Int) (hL : ∀ p ∈ P, at0 p.1 p.2 ∣ L) {v : V} (h : Sp (fun u => ∃ p ∈ P, at0 p.1 = u) v) (j : Nat) : res L P v j = 0 := by
 refine h.kill (fun v => res L P v j) (res_zero L P j) (fun u v => res_add L P u v j) (fun c u => res_mul L P c u j) fun u hu => ?_
 obtain ⟨q, hq, rfl⟩ := hu
 unfold res
 rw [sumOver_one P _ q hP.1 hq fun p hp e => by
  show L / at0 p.1 p.2 * at0 q.1 p.2 * at0 p.1 j = 0
  rw [hP.2.2 q hq p hp (Ne.symm e)]
  simp]
 rw [Int.ediv_mul_cancel (hL q hq)]
 omega
theorem res_piv {P : List (List Int × Nat)} (hP : Piv P) (L : Int) (hL : ∀ p ∈ P, at0 p.1 p.2 ∣ L) (v : V) (q : List Int × Nat) (hq : q ∈ P) : res L P v q.2 = 0 := by
 unfold res
 rw [sumOver_one P _ q hP.1 hq fun p hp e => by
  show L / at0 p.1 p.2 * v p.2 * at0 p.1 q.2 = 0
  rw [hP.2.2 p hp q hq e]
  simp]
 show L * v q.2 - L / at0 q.1 q.2 * v q.2 * at0 q.1 q.2 = 0
 have := Int.ediv_mul_cancel (hL q hq)
 rw [Int.mul_right_comm, this]
 omega
theorem sumOver_mem (S : V → Prop) (P : List (List Int × Nat)) (g : List Int × Nat → Int) (h : ∀ p ∈ P, Sp S (at0 p.1)) : Sp S (fun j => sumOver (fun p => g p * at0 p.1 j) P) := by
 induction P with
 | nil => exact Sp.zero
 | cons p P ih =>
  exact Sp.add (Sp.smul (g p) (h p (by simp))) (ih fun q hq => h q (by simp [hq]))
theorem res_mem {S : V → Prop} {P : List (List Int × Nat)} (L : Int) {v : V} (hv : Sp S v) (h : ∀ p ∈ P, Sp S (at0 p.1)) : Sp S (res L P v) := by
 refine (Sp.sub L 1 hv (sumOver_mem S P (fun p => L / at0 p.1 p.2 * v p.2) h)).congr fun j => ?_
 unfold res
 omega
def common (P : List (List Int × Nat)) : Int := P.foldr (fun p c => at0 p.1 p.2 * c) 1
theorem common_ne {P : List (List Int × Nat)} (h : ∀ p ∈ P, at0 p.1 p.2 ≠ 0) : common P ≠ 0 := by
 induction P with
 | nil => decide
 | cons p P ih => exact Int.mul_ne_zero (h p (by simp)) (ih fun q hq => h q (by simp [hq]))
theorem dvd_common {P : List (List Int × Nat)} : ∀ p ∈ P, at0 p.1 p.2 ∣ common P := by
 induction P with
 | nil => simp
 | cons p P ih =>
  intro q hq
  rcases List.mem_cons.1 hq with rfl | hq
  ·exact Int.dvd_mul_right _ _
  ·exact Int.dvd_trans (ih q hq) (Int.dvd_mul_left _ _)
theorem zero_of_piv {P : List (List Int × Nat)} (hP : Piv P) {v : V} (h : Sp (fun u => ∃ p ∈ P, at0 p.1 = u) v) (h0 : ∀ p ∈ P, v p.2 = 0) (j : Nat) : v j = 0 := by
 have hr := res_span hP (common P) dvd_common h j
 unfold res at hr
 rw [sumOver_zero _ _ fun p hp => by rw [h0 p hp]; simp] at hr
 have : common P * v j = 0 := by omega
 exact (Int.mul_eq_zero.1 this).resolve_left (common_ne hP.2.1)
theorem prop_of_piv {P : List (List Int × Nat)} (hP : Piv P) {u v : V} (hu : Sp (fun u => ∃ p ∈ P, at0 p.1 = u) u) (hv : Sp (fun u => ∃ p ∈ P, at0 p.1 = u) v)
  (q : List Int × Nat) (h0 : ∀ p ∈ P, p.2 ≠ q.2 → u p.2 = 0 ∧ v p.2 = 0) (j : Nat) : v q.2 * u j = u q.2 * v j := by
 have := zero_of_piv hP (Sp.sub (v q.2) (u q.2) hu hv) (fun p hp => by
  by_cases e : p.2 = q.2
  ·rw [e, Int.mul_comm]; omega
  ·rw [(h0 p hp e).1, (h0 p hp e).2]; simp) j
 omega
def Prim (v : V) : Prop := ∀ d : Int, (∀ j, d ∣ v j) → d ∣ 1
theorem Prim.dvd {v : V} (h : Prim v) (a b : Int) (hb : b ≠ 0) (hd : ∀ j, b ∣ a * v j) : b ∣ a := by
 have hg : (Int.gcd b a : Int) ≠ 0 := by
  intro e
  have := Int.gcd_eq_zero_iff.1 (by omega : Int.gcd b a = 0)
  exact hb this.1
 obtain ⟨b', hb'⟩ := Int.gcd_dvd_left b a
 have h1 : b' ∣ 1 := h b' fun j => by
  have h2 : b ∣ v j * Int.gcd b a := Int.dvd_mul_gcd_iff_dvd_mul.2 (by rw [Int.mul_comm];exact hd j)
  obtain ⟨c, hc⟩ := h2
  refine ⟨c, ?_⟩
  have h3 : (Int.gcd b a : Int) * v j = (Int.gcd b a : Int) * (b' * c) := by
   rw [← Int.mul_assoc, ← hb', ← hc, Int.mul_comm]
  exact Int.eq_of_mul_eq_mul_left hg h3
 obtain ⟨c, hc⟩ := h1
 have h4 : (Int.gcd b a : Int) = b * c := by
  rw [hb', Int.mul_assoc, ← hc, Int.mul_one]
  exact congrArg _ (by rw [← hb'])
 exact Int.dvd_trans ⟨c, h4⟩ (Int.gcd_dvd_right b a)
theorem Prim.of_prop {v w : V} (h : Prim v) (a b : Int) (hb : b ≠ 0) (e : ∀ j, a * v j = b * w j) : ∃ c, (∀ j, w j = c * v j) ∧ a = b * c := by
 obtain ⟨c, hc⟩ := h.dvd a b hb fun j => ⟨w j, e j⟩
 refine ⟨c, fun j => ?_, hc⟩
 have := e j
 rw [hc, Int.mul_assoc] at this
 exact (Int.eq_of_mul_eq_mul_left hb this).symm
theorem Prim.bound {v w : V} (h : Prim v) (a b : Int) (ha : a ≠ 0) (hb : b ≠ 0) (e : ∀ j, a * v j = b * w j) (j : Nat) : (v j).natAbs ≤ (w j).natAbs := by
 obtain ⟨c, hc, hac⟩ := h.of_prop a b hb e
 have h0 : c ≠ 0 := fun h => ha (by rw [hac, h, Int.mul_zero])
 rw [hc j, Int.natAbs_mul]
 exact Nat.le_mul_of_pos_left _ (Int.natAbs_pos.2 h0)
theorem Prim.eq {v w : V} (hv : Prim v) (hw : Prim w) (a b : Int) (ha : 0 < a) (hb : 0 < b) (e : ∀ j, a * v j = b * w j) (j : Nat) : v j = w j := by
 obtain ⟨c, hc, hac⟩ := hv.of_prop a b (by omega) e
 have h1 : c ∣ 1 := hw c fun j => ⟨v j, by rw [hc j]⟩
 have hcp : 0 < c := by
  have : 0 < b * c := by omega
  exact Int.pos_of_mul_pos_right this (by omega)
 have h2 := Int.le_of_dvd (by decide) h1
 have : c = 1 := by omega
 rw [hc j, this, Int.one_mul]
end Go.Proofs.YtojkepidkmkmpaaAlg
namespace Go.Proofs.YtojkepidkmkmpaaAlg
def PS (P : List (List Int × Nat)) : V → Prop := fun u => ∃ p ∈ P, at0 p.1 = u
structure St (S : V → Prop) (P : List (List Int × Nat)) (Q : List (List Int)) : Prop where
 piv : Piv P
 rest0 : ∀ q ∈ Q, ∀ p ∈ P, at0 q p.2 = 0
 inP : ∀ p ∈ P, Sp S (at0 p.1)
 inQ : ∀ q ∈ Q, Sp S (at0 q)
 all : ∀ v, S v → Sp (fun u => PS P u ∨ ∃ q ∈ Q, at0 q = u) v
 orig : ∃ Os : List V, (∀ o ∈ Os, S o ∧ Sp (PS P) o) ∧ Os.length = P.length ∧ det (P.map (·.2)) Os ≠ 0
 from_ : ∀ q ∈ Q, ∃ o, S o ∧ Sp (fun u => u = o ∨ PS P u) (at0 q)
theorem St.start (Q : List (List Int)) (S : V → Prop) (h1 : ∀ q ∈ Q, ∃ o, S o ∧ ∃ g, g ≠ 0 ∧ ∀ j, g * at0 q j = o j) (h2 : ∀ v, S v → ∃ q ∈ Q, ∃ g, g ≠ 0 ∧ ∀ j, g * at0 q j = v j) : St S [] Q where
 piv := ⟨by simp, by simp, by simp⟩
 rest0 := by simp
 inP := by simp
 inQ := fun q hq => by
  obtain ⟨o, ho, g, hg, e⟩ := h1 q hq
  exact Sp.div g hg ((Sp.of ho).congr fun j => (e j).symm)
 all := fun v hv => by
  obtain ⟨q, hq, g, hg, e⟩ := h2 v hv
  exact (Sp.smul g (Sp.of (.inr ⟨q, hq, rfl⟩))).congr e
 orig := ⟨[], by simp, rfl, by simp [det]⟩
 from_ := fun q hq => by
  obtain ⟨o, ho, g, hg, e⟩ := h1 q hq
  exact ⟨o, ho, Sp.div g hg ((Sp.of (.inl rfl)).congr fun j => (e j).symm)⟩
theorem St.rest {S : V → Prop} {P : List (List Int × Nat)} {Q Q' : List (List Int)} (h : St S P Q) (h1 : ∀ q ∈ Q', q ∈ Q) (h2 : ∀ q ∈ Q, q ∈ Q' ∨ ∀ j, at0 q j = 0) : St S P Q' where
 piv := h.piv
 rest0 := fun q hq => h.rest0 q (h1 q hq)
 inP := h.inP
 inQ := fun q hq => h.inQ q (h1 q hq)
 all := fun v hv => (h.all v hv).trans fun u hu => by
  rcases hu with hu | ⟨q, hq, rfl⟩
  ·exact Sp.of (.inl hu)
  ·rcases h2 q hq with hq' | h0
   ·exact Sp.of (.inr ⟨q, hq', rfl⟩)
   ·exact Sp.zero.congr fun j => (h0 j).symm
 orig := h.orig
 from_ := fun q hq => h.from_ q (h1 q hq)
theorem at0_prop {S : V → Prop} {P : List (List Int × Nat)} {Q : List (List Int)} (h : St S P Q) (Os : List V) (hO : ∀ o ∈ Os, S o ∧ Sp (PS P) o) (_hl : Os.length = P.length) (hD : det (P.map (·.2)) Os ≠ 0)
  (q : List Int) (hq : q ∈ Q) (hn : ∃ j, at0 q j ≠ 0) : ∃ (o : V) (a b : Int), S o ∧ a ≠ 0 ∧ b ≠ 0 ∧ Sp (PS P) (fun j => a * at0 q j - b * o j) ∧ ∀ j, det (P.map (·.2)) Os * a * at0 q j = b * det (j :: P.map (·.2)) (o :: Os) := by
 obtain ⟨o, ho, hs⟩ := h.from_ q hq
 obtain ⟨a, b, ha, hab⟩ := hs.split
 have hhead : Sp (PS P) (fun j => det (j :: P.map (·.2)) (o :: Os) - det (P.map (·.2)) Os * o j) := (det_head (P.map (·.2)) o Os).trans fun v hv => (hO v hv).2
 have hz : ∀ j, det (P.map (·.2)) Os * a * at0 q j = b * det (j :: P.map (·.2)) (o :: Os) := by
  have hs : Sp (PS P) (fun j => det (P.map (·.2)) Os * a * at0 q j - b * det (j :: P.map (·.2)) (o :: Os)) := by
   refine (Sp.sub (det (P.map (·.2)) Os) b hab hhead).congr fun j => ?_
   simp only [Int.mul_sub, Int.mul_assoc, Int.mul_left_comm b]
   omega
  intro j
  have := zero_of_piv h.piv hs (fun p hp => by
   show det (P.map (·.2)) Os * a * at0 q p.2 - b * det (p.2 :: P.map (·.2)) (o :: Os) = 0
   rw [h.rest0 q hq p hp, det_dup _ p.2 (List.mem_map_of_mem hp)]
   simp) j
  omega
 refine ⟨o, a, b, ho, ha, ?_, hab, hz⟩
 rintro rfl
 obtain ⟨j, hj⟩ := hn
 have := hz j
 rw [Int.zero_mul] at this
 rcases Int.mul_eq_zero.1 this with h|h
 ·exact Int.mul_ne_zero hD ha h
 ·exact hj h
theorem St.step {S : V → Prop} {P : List (List Int × Nat)} {Q Q' : List (List Int)} (h : St S P Q) (q : List Int) (k : Nat) (hk : at0 q k ≠ 0) (hq : q ∈ Q)
  (hQ : ∀ x ∈ Q, x = q ∨ x ∈ Q') (hQ' : ∀ x ∈ Q', x ∈ Q) (f : List Int → List Int)
  (hf : ∀ r, ((∃ p ∈ P, p.1 = r) ∨ r ∈ Q') → ∃ g α β : Int, g ≠ 0 ∧ α ≠ 0 ∧ (∀ j, g * at0 (f r) j = α * at0 r j - β * at0 q j) ∧ at0 (f r) k = 0) :
  St S ((q, k) :: P.map fun p => (f p.1, p.2)) (Q'.map f) := by
 have hcol : ((P.map fun p => (f p.1, p.2)).map (·.2)) = P.map (·.2) := by rw [List.map_map];rfl
 have hknot : k ∉ P.map (·.2) := fun hm => by
  replace hm := List.mem_map.1 hm
  obtain ⟨p, hp, rfl⟩ := hm
  exact hk (h.rest0 q hq p hp)
 have hfp : ∀ p ∈ P, ∃ g α β : Int, g ≠ 0 ∧ α ≠ 0 ∧ (∀ j, g * at0 (f p.1) j = α * at0 p.1 j - β * at0 q j) ∧ at0 (f p.1) k = 0 := fun p hp => hf p.1 (.inl ⟨p, hp, rfl⟩)
 have hfq : ∀ r ∈ Q', ∃ g α β : Int, g ≠ 0 ∧ α ≠ 0 ∧ (∀ j, g * at0 (f r) j = α * at0 r j - β * at0 q j) ∧ at0 (f r) k = 0 := fun r hr => hf r (.inr hr)
 have hqin : Sp (PS ((q, k) :: P.map fun p => (f p.1, p.2))) (at0 q) := Sp.of ⟨(q, k), by simp, rfl⟩
 have hold : ∀ v, PS P v → Sp (PS ((q, k) :: P.map fun p => (f p.1, p.2))) v := by
  rintro v ⟨p, hp, rfl⟩
  obtain ⟨g, α, β, hg, hα, e, _⟩ := hfp p hp
  have h1 : Sp (PS ((q, k) :: P.map fun p => (f p.1, p.2))) (at0 (f p.1)) := Sp.of ⟨(f p.1, p.2), List.mem_cons_of_mem _ (List.mem_map.2 ⟨p, hp, rfl⟩), rfl⟩
  refine Sp.div α hα ((Sp.comb g β h1 hqin).congr fun j => ?_)
  rw [e j]
  omega
 refine ⟨⟨?_, ?_, ?_⟩, ?_, ?_, ?_, ?_, ?_, ?_⟩
 ·simp only [List.map_cons, List.nodup_cons, hcol]
  exact ⟨hknot, h.piv.1⟩
 ·intro p hp
  replace hp := List.mem_cons.1 hp
  rcases hp with rfl|hp
  ·exact hk
  ·replace hp := List.mem_map.1 hp
   obtain ⟨p, hp, rfl⟩ := hp
   obtain ⟨g, α, β, hg, hα, e, _⟩ := hfp p hp
   intro h0
   have h1 := e p.2
   have h0' : at0 (f p.1) p.2 = 0 := h0
   rw [h0', h.rest0 q hq p hp] at h1
   have h2 := Int.mul_ne_zero hα (h.piv.2.1 p hp)
   omega
 ·intro p hp p' hp' hne
  replace hp := List.mem_cons.1 hp
  rcases hp with rfl|hp
  ·replace hp' := List.mem_cons.1 hp'
   rcases hp' with rfl|hp'
   ·exact absurd rfl hne
   ·replace hp' := List.mem_map.1 hp'
    obtain ⟨p', hp', rfl⟩ := hp'
    exact h.rest0 q hq p' hp'
  ·replace hp := List.mem_map.1 hp
   obtain ⟨p, hp, rfl⟩ := hp
   obtain ⟨g, α, β, hg, hα, e, h0⟩ := hfp p hp
   replace hp' := List.mem_cons.1 hp'
   rcases hp' with rfl|hp'
   ·exact h0
   ·replace hp' := List.mem_map.1 hp'
    obtain ⟨p', hp', rfl⟩ := hp'
    have h1 := e p'.2
    rw [h.rest0 q hq p' hp', h.piv.2.2 p hp p' hp' hne] at h1
    have : g * at0 (f p.1) p'.2 = 0 := by omega
    exact (Int.mul_eq_zero.1 this).resolve_left hg
 ·intro r hr p hp
  replace hr := List.mem_map.1 hr
  obtain ⟨r, hr, rfl⟩ := hr
  obtain ⟨g, α, β, hg, hα, e, h0⟩ := hfq r hr
  replace hp := List.mem_cons.1 hp
  rcases hp with rfl|hp
  ·exact h0
  ·replace hp := List.mem_map.1 hp
   obtain ⟨p, hp, rfl⟩ := hp
   have h1 := e p.2
   rw [h.rest0 q hq p hp, h.rest0 r (hQ' r hr) p hp] at h1
   have : g * at0 (f r) p.2 = 0 := by omega
   exact (Int.mul_eq_zero.1 this).resolve_left hg
 ·intro p hp
  replace hp := List.mem_cons.1 hp
  rcases hp with rfl|hp
  ·exact h.inQ q hq
  ·replace hp := List.mem_map.1 hp
   obtain ⟨p, hp, rfl⟩ := hp
   obtain ⟨g, α, β, hg, hα, e, h0⟩ := hfp p hp
   exact Sp.div g hg ((Sp.sub α β (h.inP p hp) (h.inQ q hq)).congr fun j => (e j).symm)
 ·intro r hr
  replace hr := List.mem_map.1 hr
  obtain ⟨r, hr, rfl⟩ := hr
  obtain ⟨g, α, β, hg, hα, e, h0⟩ := hfq r hr
  exact Sp.div g hg ((Sp.sub α β (h.inQ r (hQ' r hr)) (h.inQ q hq)).congr fun j => (e j).symm)
 ·intro v hv
  refine (h.all v hv).trans fun u hu => ?_
  rcases hu with hu|⟨r, hr, rfl⟩
  ·exact (hold u hu).mono fun v hv => .inl hv
  ·rcases hQ r hr with rfl|hr'
   ·exact hqin.mono fun v hv => .inl hv
   ·obtain ⟨g, α, β, hg, hα, e, _⟩ := hfq r hr'
    have h1 : Sp (fun u => PS ((q, k) :: P.map fun p => (f p.1, p.2)) u ∨ ∃ x ∈ Q'.map f, at0 x = u) (at0 (f r)) := Sp.of (.inr ⟨f r, List.mem_map_of_mem hr', rfl⟩)
    refine Sp.div α hα ((Sp.comb g β h1 (hqin.mono fun v hv => .inl hv)).congr fun j => ?_)
    rw [e j]
    omega
 ·obtain ⟨Os, hO, hl, hD⟩ := h.orig
  obtain ⟨o, a, b, ho, ha, hb, hab, hz⟩ := at0_prop h Os hO hl hD q hq ⟨k, hk⟩
  refine ⟨o :: Os, fun x hx => ?_, by simp [hl], ?_⟩
  ·replace hx := List.mem_cons.1 hx
   rcases hx with rfl|hx
   ·refine ⟨ho, Sp.div b hb ?_⟩
    have h1 := hab.trans hold
    refine (Sp.sub a 1 hqin h1).congr fun j => ?_
    omega
   ·exact ⟨(hO x hx).1, (hO x hx).2.trans hold⟩
  ·simp only [List.map_cons, hcol]
   intro h0
   have := hz k
   rw [h0, Int.mul_zero] at this
   exact Int.mul_ne_zero (Int.mul_ne_zero hD ha) hk this
 ·intro r hr
  replace hr := List.mem_map.1 hr
  obtain ⟨r, hr, rfl⟩ := hr
  obtain ⟨g, α, β, hg, hα, e, h0⟩ := hfq r hr
  obtain ⟨o, ho, hs⟩ := h.from_ r (hQ' r hr)
  refine ⟨o, ho, Sp.div g hg ?_⟩
  have h1 : Sp (fun u => u = o ∨ PS ((q, k) :: P.map fun p => (f p.1, p.2)) u) (at0 r) := hs.trans fun u hu => by
   rcases hu with rfl|hu
   ·exact Sp.of (.inl rfl)
   ·exact (hold u hu).mono fun v hv => .inr hv
  exact (Sp.sub α β h1 (hqin.mono fun v hv => .inr hv)).congr fun j => (e j).symm
theorem St.bound_piv {S : V → Prop} {P : List (List Int × Nat)} {Q : List (List Int)} (h : St S P Q) (b : Nat → Nat) (hb : ∀ o, S o → ∀ j, (o j).natAbs ≤ b j) (hp : ∀ p ∈ P, Prim (at0 p.1)) :
  ∃ D : Int, D ≠ 0 ∧ D.natAbs ≤ fct P.length * prod b (P.map (·.2)) ∧ ∀ p ∈ P, ∃ c : Int, D = at0 p.1 p.2 * c ∧ ∀ j, (c * at0 p.1 j).natAbs ≤ fct P.length * (b j * prod b ((P.map (·.2)).erase p.2)) := by
 obtain ⟨Os, hO, hl, hD⟩ := h.orig
 refine ⟨det (P.map (·.2)) Os, hD, ?_, fun p hpm => ?_⟩
 ·have := det_bound b (P.map (·.2)) Os (fun R hR c _ => hb R (hO R hR).1 c) (by simp [hl])
  simpa using this
 ·obtain ⟨ε, hε, he⟩ := det_erase (P.map (·.2)) p.2 (List.mem_map_of_mem hpm)
  have hW0 : Sp (PS P) (fun j => det (j :: (P.map (·.2)).erase p.2) Os) := by
   have h0 : Sp (· ∈ Os) (fun j => E j (det ((P.map fun x => x.2).erase p.2)) Os) := E_mem _ Os
   exact h0.trans fun v hv => (hO v hv).2
  have hW : Sp (PS P) (fun j => ε * det (j :: (P.map (·.2)).erase p.2) Os) := Sp.smul ε hW0
  have hpr := prop_of_piv h.piv (v := at0 p.1) hW (Sp.of ⟨p, hpm, rfl⟩) p fun q hq hne => ⟨by
   show ε * det (q.2 :: (P.map (·.2)).erase p.2) Os = 0
   rw [det_dup _ q.2 ((List.mem_erase_of_ne hne).2 (List.mem_map_of_mem hq)), Int.mul_zero], h.piv.2.2 p hpm q hq (Ne.symm hne)⟩
  have hεε : ε * (ε * det (P.map (·.2)) Os) = det (P.map (·.2)) Os := by rcases hε with rfl|rfl <;> omega
  have hpr' : ∀ j, det (P.map (·.2)) Os * at0 p.1 j = at0 p.1 p.2 * (ε * det (j :: (P.map (·.2)).erase p.2) Os) := fun j => by
   have := hpr j
   simp only [he Os, hεε] at this
   exact this.symm
  obtain ⟨c, hc, hDc⟩ := (hp p hpm).of_prop _ _ (h.piv.2.1 p hpm) hpr'
  refine ⟨c, hDc, fun j => ?_⟩
  rw [← hc j, Int.natAbs_mul]
  have h1 := det_bound b (j :: (P.map (·.2)).erase p.2) Os (fun R hR c _ => hb R (hO R hR).1 c) (by
   simp only [List.length_cons, List.length_erase_of_mem (List.mem_map_of_mem (f := (·.2)) hpm), List.length_map, hl]
   have := List.length_pos_of_mem hpm
   omega)
  have h2 : (j :: (P.map (·.2)).erase p.2).length = P.length := by
   simp only [List.length_cons, List.length_erase_of_mem (List.mem_map_of_mem (f := (·.2)) hpm), List.length_map]
   have := List.length_pos_of_mem hpm
   omega
  rw [h2] at h1
  have h3 : ε.natAbs = 1 := by rcases hε with rfl|rfl <;> rfl
  rw [h3, Nat.one_mul]
  exact h1
theorem St.bound_rest {S : V → Prop} {P : List (List Int × Nat)} {Q : List (List Int)} (h : St S P Q) (b : Nat → Nat) (hb : ∀ o, S o → ∀ j, (o j).natAbs ≤ b j) (q : List Int) (hq : q ∈ Q) (hp : (∀ j, at0 q j = 0) ∨ Prim (at0 q)) (j : Nat) :
  (at0 q j).natAbs ≤ fct (P.length + 1) * (b j * prod b (P.map (·.2))) := by
 by_cases hn : ∃ j, at0 q j ≠ 0
 ·obtain ⟨Os, hO, hl, hD⟩ := h.orig
  obtain ⟨o, a, c, ho, ha, hc, _, hz⟩ := at0_prop h Os hO hl hD q hq hn
  have hpr : Prim (at0 q) := hp.resolve_left fun h0 => by
   obtain ⟨j, hj⟩ := hn
   exact hj (h0 j)
  have h1 := hpr.bound _ c (Int.mul_ne_zero hD ha) hc hz j
  have h2 := det_bound b (j :: P.map (·.2)) (o :: Os) (fun R hR d _ => by
   rcases List.mem_cons.1 hR with rfl | hR
   ·exact hb _ ho d
   ·exact hb R (hO R hR).1 d) (by simp [hl])
  simp only [List.length_cons, List.length_map, prod] at h2
  omega
 ·have : at0 q j = 0 := Classical.byContradiction fun hj => hn ⟨j, hj⟩
  rw [this]
  simp
end Go.Proofs.YtojkepidkmkmpaaAlg
namespace Go.Proofs.YtojkepidkmkmpaaAlg
structure Red (S : V → Prop) (c : Nat) (P : List (List Int × Nat)) (Q : List (List Int)) : Prop where
 st : St S P Q
 low : ∀ q ∈ Q, ∀ j, j < c → at0 q j = 0
 ncol : ∀ p ∈ P, p.2 < c
 lead : ∀ p ∈ P, ∀ j, j < p.2 → at0 p.1 j = 0
 pos : ∀ p ∈ P, 0 < at0 p.1 p.2
 prim : ∀ p ∈ P, Prim (at0 p.1)
 tq : ∀ q ∈ Q, (∀ j, at0 q j = 0) ∨ (Prim (at0 q) ∧ ∃ k, 0 < at0 q k ∧ ∀ j, j < k → at0 q j = 0)
 sorted : (P.map (·.2)).Pairwise (· > ·)
theorem Red.piv_of {S : V → Prop} {c : Nat} {P : List (List Int × Nat)} {Q : List (List Int)} (h : Red S c P Q) {k : Nat} (hk : k < c) {v : V} (hv : Sp S v) (h0 : ∀ j, j < k → v j = 0) (h1 : v k ≠ 0) : k ∈ P.map (·.2) := by
 refine Classical.byContradiction fun hn => ?_
 have hP := h.st.piv
 have hr : res (common P) P v k = 0 := by
  refine (hv.trans h.st.all).kill (fun v => res (common P) P v k) (res_zero _ P k) (fun u v => res_add _ P u v k) (fun c u => res_mul _ P c u k) fun u hu => ?_
  rcases hu with hu|⟨q, hq, rfl⟩
  ·exact res_span hP (common P) dvd_common (Sp.of hu) k
  ·unfold res
   rw [sumOver_zero _ _ fun p hp => by rw [h.st.rest0 q hq p hp];simp, h.low q hq k hk]
   simp
 unfold res at hr
 rw [sumOver_zero _ _ fun p hp => by
  rcases Nat.lt_trichotomy p.2 k with hlt|heq|hgt
  ·rw [h0 _ hlt];simp
  ·exact absurd (List.mem_map.2 ⟨p, hp, heq⟩) hn
  ·rw [h.lead p hp k hgt];simp] at hr
 have : common P * v k = 0 := by omega
 rcases Int.mul_eq_zero.1 this with h|h
 ·exact common_ne hP.2.1 h
 ·exact h1 h
theorem Red.mem_iff {S : V → Prop} {c : Nat} {P : List (List Int × Nat)} {Q : List (List Int)} (h : Red S c P Q) (k : Nat) : k ∈ P.map (·.2) ↔ k < c ∧ ∃ v, Sp S v ∧ (∀ j, j < k → v j = 0) ∧ v k ≠ 0 := by
 constructor
 ·intro hm
  obtain ⟨p, hp, rfl⟩ := List.mem_map.1 hm
  exact ⟨h.ncol p hp, at0 p.1, h.st.inP p hp, h.lead p hp, h.st.piv.2.1 p hp⟩
 ·rintro ⟨hk, v, hv, h0, h1⟩
  exact h.piv_of hk hv h0 h1
theorem sorted_eq : ∀ (l l' : List Nat), l.Pairwise (· > ·) → l'.Pairwise (· > ·) → (∀ k, k ∈ l ↔ k ∈ l') → l = l'
 | [], [], _, _, _ => rfl
 | [], b :: l', _, _, h => absurd ((h b).2 (by simp)) (by simp)
 | a :: l, [], _, _, h => absurd ((h a).1 (by simp)) (by simp)
 | a :: l, b :: l', h1, h2, h => by
  have h1' := List.pairwise_cons.1 h1
  have h2' := List.pairwise_cons.1 h2
  have e : a = b := by
   have ha := (h a).1 (by simp)
   have hb := (h b).2 (by simp)
   rcases List.mem_cons.1 ha with e | ha
   ·exact e
   ·rcases List.mem_cons.1 hb with e | hb
    ·exact e.symm
    ·have := h1'.1 b hb
     have := h2'.1 a ha
     omega
  subst e
  rw [sorted_eq l l' h1'.2 h2'.2 fun k => ⟨fun hk => ?_, fun hk => ?_⟩]
  ·rcases List.mem_cons.1 ((h k).1 (by simp [hk])) with e | h
   ·have := h1'.1 k hk; omega
   ·exact h
  ·rcases List.mem_cons.1 ((h k).2 (by simp [hk])) with e | h
   ·have := h2'.1 k hk; omega
   ·exact h
theorem Red.cols {S S' : V → Prop} {c : Nat} {P P' : List (List Int × Nat)} {Q Q' : List (List Int)} (h : Red S c P Q) (h' : Red S' c P' Q') (e : ∀ v, Sp S v ↔ Sp S' v) : P.map (·.2) = P'.map (·.2) :=
 sorted_eq _ _ h.sorted h'.sorted fun k => by
  rw [h.mem_iff, h'.mem_iff]
  constructor
  ·rintro ⟨hk, v, hv, hh⟩
   exact ⟨hk, v, (e v).1 hv, hh⟩
  ·rintro ⟨hk, v, hv, hh⟩
   exact ⟨hk, v, (e v).2 hv, hh⟩
theorem Red.span {S : V → Prop} {c : Nat} {P : List (List Int × Nat)} {Q : List (List Int)} (h : Red S c P Q) (hz : ∀ q ∈ Q, ∀ j, at0 q j = 0) {v : V} (hv : Sp S v) : Sp (PS P) v :=
 (hv.trans h.st.all).trans fun u hu => by
  rcases hu with hu | ⟨q, hq, rfl⟩
  ·exact Sp.of hu
  ·exact Sp.zero.congr fun j => (hz q hq j).symm
theorem Red.row_eq {S S' : V → Prop} {c : Nat} {P P' : List (List Int × Nat)} {Q Q' : List (List Int)} (h : Red S c P Q) (hz : ∀ q ∈ Q, ∀ j, at0 q j = 0) (h' : Red S' c P' Q') (e : ∀ v, Sp S' v → Sp S v) (hc : P.map (·.2) = P'.map (·.2))
  (p p' : List Int × Nat) (hp : p ∈ P) (hp' : p' ∈ P') (hpp : p.2 = p'.2) (j : Nat) : at0 p.1 j = at0 p'.1 j := by
 have hu : Sp (PS P) (at0 p.1) := Sp.of ⟨p, hp, rfl⟩
 have hv : Sp (PS P) (at0 p'.1) := h.span hz (e _ (h'.st.inP p' hp'))
 have hpr := prop_of_piv h.st.piv hu hv p fun r hr hne => by
  refine ⟨h.st.piv.2.2 p hp r hr (Ne.symm hne), ?_⟩
  have hm : r.2 ∈ P'.map (·.2) := by rw [← hc];exact List.mem_map_of_mem hr
  obtain ⟨r', hr', e'⟩ := List.mem_map.1 hm
  rw [← e']
  refine h'.st.piv.2.2 p' hp' r' hr' fun e2 => hne ?_
  rw [hpp, e2]
  exact e'.symm
 have h1 := h.pos p hp
 have h2 := h'.pos p' hp'
 rw [← hpp] at h2
 exact (h.prim p hp).eq (h'.prim p' hp') _ _ h2 h1 hpr j
theorem at0_ext {l l' : List Int} (hl : l.length = l'.length) (h : ∀ j, at0 l j = at0 l' j) : l = l' := by
 apply List.ext_getElem hl
 intro i h1 h2
 have := h i
 unfold at0 at this
 rw [List.getD_eq_getElem?_getD, List.getD_eq_getElem?_getD, List.getElem?_eq_getElem h1, List.getElem?_eq_getElem h2] at this
 exact this
theorem at0_out {l : List Int} {j : Nat} (h : l.length ≤ j) : at0 l j = 0 := by
 unfold at0
 rw [List.getD_eq_getElem?_getD, List.getElem?_eq_none h]
 rfl
theorem at0_lt {l : List Int} {j : Nat} (h : j < l.length) : at0 l j = l[j] := by
 unfold at0
 rw [List.getD_eq_getElem?_getD, List.getElem?_eq_getElem h]
 rfl
theorem eq_of_cols : ∀ (P P' : List (List Int × Nat)), P.map (·.2) = P'.map (·.2) → (∀ p ∈ P, ∀ p' ∈ P', p.2 = p'.2 → p.1 = p'.1) → P = P'
 | [], [], _, _ => rfl
 | [], _ :: _, h, _ => by simp at h
 | _ :: _, [], h, _ => by simp at h
 | p :: P, p' :: P', h, k => by
  simp only [List.map_cons, List.cons.injEq] at h
  have e := k p (by simp) p' (by simp) h.1
  rw [eq_of_cols P P' h.2 fun q hq q' hq' => k q (by simp [hq]) q' (by simp [hq'])]
  rw [show p = p' from Prod.ext e h.1]
theorem Red.eq {S S' : V → Prop} {c n : Nat} {P P' : List (List Int × Nat)} {Q Q' : List (List Int)} (h : Red S c P Q) (hz : ∀ q ∈ Q, ∀ j, at0 q j = 0) (h' : Red S' c P' Q') (e : ∀ v, Sp S v ↔ Sp S' v)
  (hn : ∀ p ∈ P, p.1.length = n) (hn' : ∀ p ∈ P', p.1.length = n) : P = P' :=
 eq_of_cols P P' (h.cols h' e) fun p hp p' hp' hpp => at0_ext (by rw [hn p hp, hn' p' hp']) (h.row_eq hz h' (fun v hv => (e v).2 hv) (h.cols h' e) p p' hp hp' hpp)
def gcdl (l : List Int) : Nat := l.foldl (fun g x => Nat.gcd g x.natAbs) 0
theorem foldl_gcd : ∀ (l : List Int) (g : Nat), l.foldl (fun g x => Nat.gcd g x.natAbs) g = Nat.gcd g (gcdl l)
 | [], g => by simp [gcdl]
 | x :: l, g => by
  unfold gcdl
  simp only [List.foldl_cons]
  rw [foldl_gcd l, foldl_gcd l, Nat.gcd_zero_left, Nat.gcd_assoc]
theorem gcdl_cons (x : Int) (l : List Int) : gcdl (x :: l) = Nat.gcd x.natAbs (gcdl l) := by
 show List.foldl _ (Nat.gcd 0 x.natAbs) l = _
 rw [foldl_gcd, Nat.gcd_zero_left]
theorem gcdl_dvd : ∀ (l : List Int) (j : Nat), (gcdl l : Int) ∣ at0 l j
 | [], j => by simp [at0]
 | x :: l, 0 => by
  rw [gcdl_cons]
  exact Int.ofNat_dvd_left.2 (Nat.gcd_dvd_left _ _)
 | x :: l, j + 1 => by
  rw [gcdl_cons]
  have := gcdl_dvd l j
  exact Int.dvd_trans (Int.natCast_dvd_natCast.2 (Nat.gcd_dvd_right _ _)) this
theorem dvd_gcdl : ∀ (l : List Int) (d : Int), (∀ j, d ∣ at0 l j) → d.natAbs ∣ gcdl l
|[], d, _ => by simp [gcdl]
|x :: l, d, h => by
  rw [gcdl_cons]
  refine Nat.dvd_gcd (Int.natAbs_dvd_natAbs.2 (h 0)) (dvd_gcdl l d fun j => h (j + 1))
theorem gcdl_zero (l : List Int) (h : gcdl l = 0) (j : Nat) : at0 l j = 0 := by
 have := gcdl_dvd l j
 rw [h] at this
 simpa using this
def ld (l : List Int) : Nat := l.findIdx (fun x => x != 0)
theorem ld_le (l : List Int) : ld l ≤ l.length := List.findIdx_le_length
theorem ld_low (l : List Int) (j : Nat) (h : j < ld l) : at0 l j = 0 := by
 have hl := ld_le l
 have := List.not_of_lt_findIdx h
 rw [at0_lt (by omega)]
 simpa using this
theorem ld_ne (l : List Int) (h : ld l < l.length) : at0 l (ld l) ≠ 0 := by
 have := List.findIdx_getElem (w := h)
 rw [at0_lt h]
 have h2 : (l[ld l] != 0) = true := this
 simpa using h2
theorem ld_eq (l : List Int) (k : Nat) (h0 : ∀ j, j < k → at0 l j = 0) (h1 : at0 l k ≠ 0) : ld l = k := by
 have hk : k < l.length := Nat.lt_of_not_le fun h => h1 (at0_out h)
 rcases Nat.lt_trichotomy (ld l) k with h | h | h
 ·exact absurd (h0 _ h) (ld_ne l (by omega))
 ·exact h
 ·exact absurd (ld_low l k h) h1
theorem ld_zero (l : List Int) (h : ∀ j, at0 l j = 0) : ld l = l.length := by
 have hl := ld_le l
 rcases Nat.lt_or_ge (ld l) l.length with h1 | h1
 ·exact absurd (h _) (ld_ne l h1)
 ·omega
theorem zero_of_ld (l : List Int) (h : ld l = l.length) (j : Nat) : at0 l j = 0 := by
 rcases Nat.lt_or_ge j l.length with h1 | h1
 ·exact ld_low l j (by omega)
 ·exact at0_out h1
def sg (l : List Int) : Int := if at0 l (ld l) < 0 then -(gcdl l : Int) else gcdl l
def tid (l : List Int) : List Int := if gcdl l = 0 then l else l.map fun x => x / sg l
theorem tid_len (l : List Int) : (tid l).length = l.length := by
 unfold tid
 split <;> simp
theorem sg_abs (l : List Int) : (sg l).natAbs = gcdl l := by
 unfold sg
 split <;> simp
theorem sg_dvd (l : List Int) (j : Nat) : sg l ∣ at0 l j := by
 have := gcdl_dvd l j
 unfold sg
 split
 ·exact Int.neg_dvd.2 this
 ·exact this
theorem at0_map (l : List Int) (f : Int → Int) (h : f 0 = 0) (j : Nat) : at0 (l.map f) j = f (at0 l j) := by
 unfold at0
 rw [List.getD_eq_getElem?_getD, List.getD_eq_getElem?_getD, List.getElem?_map]
 cases l[j]? with
 | none => exact h.symm
 | some x => rfl
theorem tid_mul (l : List Int) (h : gcdl l ≠ 0) (j : Nat) : sg l * at0 (tid l) j = at0 l j := by
 unfold tid
 rw [if_neg h, at0_map _ _ (by simp)]
 exact Int.mul_ediv_cancel' (sg_dvd l j)
theorem sg_ne (l : List Int) (h : gcdl l ≠ 0) : sg l ≠ 0 := fun e => h (by rw [← sg_abs, e]; rfl)
theorem tid_prim (l : List Int) (h : gcdl l ≠ 0) : Prim (at0 (tid l)) := by
 intro d hd
 have h1 : (sg l * d).natAbs ∣ gcdl l := dvd_gcdl l _ fun j => by
  rw [← tid_mul l h j]
  exact Int.mul_dvd_mul_left _ (hd j)
 rw [Int.natAbs_mul, sg_abs] at h1
 have h2 : d.natAbs ∣ 1 := Nat.dvd_of_mul_dvd_mul_left (Nat.pos_of_ne_zero h) (by simpa using h1)
 exact Int.natAbs_dvd_natAbs.1 h2
theorem ld_lt (l : List Int) (h : gcdl l ≠ 0) : ld l < l.length := by
 have hl := ld_le l
 refine Nat.lt_of_not_le fun hge => h ?_
 have : (0 : Int).natAbs ∣ gcdl l := dvd_gcdl l 0 fun j => by rw [zero_of_ld l (by omega) j];exact Int.dvd_refl 0
 simpa using this
theorem tid_pos (l : List Int) (h : gcdl l ≠ 0) : 0 < at0 (tid l) (ld l) := by
 have h1 := tid_mul l h (ld l)
 have h2 := ld_ne l (ld_lt l h)
 have h3 : 0 < gcdl l := Nat.pos_of_ne_zero h
 have h4 : sg l = if at0 l (ld l) < 0 then -(gcdl l : Int) else gcdl l := rfl
 split at h4
 ·have h5 : 0 < -sg l := by omega
  refine Int.pos_of_mul_pos_right (a := -sg l) ?_ (by omega)
  rw [Int.neg_mul]
  omega
 ·have h5 : 0 < sg l := by omega
  refine Int.pos_of_mul_pos_right (a := sg l) ?_ (by omega)
  omega
theorem tid_low (l : List Int) (j : Nat) (h : j < ld l) : at0 (tid l) j = 0 := by
 have h1 := ld_low l j h
 by_cases hg : gcdl l = 0
 ·unfold tid
  rw [if_pos hg, h1]
 ·have := tid_mul l hg j
  rw [h1] at this
  exact (Int.mul_eq_zero.1 this).resolve_left (sg_ne l hg)
theorem tid_tq (l : List Int) : (∀ j, at0 (tid l) j = 0) ∨ (Prim (at0 (tid l)) ∧ ∃ k, 0 < at0 (tid l) k ∧ ∀ j, j < k → at0 (tid l) j = 0) := by
 by_cases h : gcdl l = 0
 ·left
  unfold tid
  rw [if_pos h]
  exact gcdl_zero l h
 ·exact .inr ⟨tid_prim l h, ld l, tid_pos l h, fun j hj => tid_low l j hj⟩
theorem tid_fac (l : List Int) : ∃ g, g ≠ 0 ∧ ∀ j, g * at0 (tid l) j = at0 l j := by
 by_cases h : gcdl l = 0
 ·refine ⟨1, by decide, fun j => ?_⟩
  unfold tid
  rw [if_pos h, Int.one_mul]
 ·exact ⟨sg l, sg_ne l h, tid_mul l h⟩
theorem tid_tidy (l : List Int) (hp : Prim (at0 l)) (k : Nat) (h1 : 0 < at0 l k) (h0 : ∀ j, j < k → at0 l j = 0) : tid l = l := by
 have hl : ld l = k := ld_eq l k h0 (by omega)
 have hg : (gcdl l : Int) ∣ 1 := hp _ (gcdl_dvd l)
 have hg' : gcdl l = 1 := by
  have := Int.ofNat_dvd_left.1 hg
  simpa using this
 unfold tid sg
 rw [hl, hg', if_neg (by decide), if_neg (by omega)]
 simp
def comb (r q : List Int) (k : Nat) : List Int := List.zipWith (fun x y => x * at0 q k - y * at0 r k) r q
theorem comb_len (r q : List Int) (k : Nat) (h : r.length = q.length) : (comb r q k).length = r.length := by
 unfold comb
 rw [List.length_zipWith]
 omega
theorem comb_at (r q : List Int) (k : Nat) (h : r.length = q.length) (j : Nat) : at0 (comb r q k) j = at0 r j * at0 q k - at0 q j * at0 r k := by
 rcases Nat.lt_or_ge j r.length with h1 | h1
 ·rw [at0_lt (by rw [comb_len r q k h]; exact h1), at0_lt h1, at0_lt (l := q) (j := j) (by omega)]
  unfold comb
  rw [List.getElem_zipWith]
 ·rw [at0_out (by rw [comb_len r q k h]; exact h1), at0_out h1, at0_out (l := q) (j := j) (by omega)]
  simp
def clr (k : Nat) (q r : List Int) : List Int := if at0 r k = 0 then r else tid (comb r q k)
theorem clr_len (k : Nat) (q r : List Int) (h : r.length = q.length) : (clr k q r).length = r.length := by
 unfold clr
 split
 ·rfl
 ·rw [tid_len, comb_len r q k h]
theorem clr_fac (k : Nat) (q r : List Int) (h : r.length = q.length) (hq : at0 q k ≠ 0) : ∃ g α β : Int, g ≠ 0 ∧ α ≠ 0 ∧ (∀ j, g * at0 (clr k q r) j = α * at0 r j - β * at0 q j) ∧ at0 (clr k q r) k = 0 := by
 unfold clr
 split
 ·rename_i h0
  exact ⟨1, 1, 0, by decide, by decide, fun j => by omega, h0⟩
 ·obtain ⟨g, hg, e⟩ := tid_fac (comb r q k)
  refine ⟨g, at0 q k, at0 r k, hg, hq, fun j => ?_, ?_⟩
  ·rw [e j, comb_at r q k h, Int.mul_comm (at0 q k), Int.mul_comm (at0 r k)]
  ·have := e k
   rw [comb_at r q k h, Int.mul_comm (at0 r k), Int.sub_self] at this
   exact (Int.mul_eq_zero.1 this).resolve_left hg
theorem clr_lead (k c : Nat) (q r : List Int) (h : r.length = q.length) (hc : 0 < at0 q c) (hq : ∀ j, j ≤ k → at0 q j = 0) (hr : ∀ j, j < k → at0 r j = 0) (hp : 0 < at0 r k) (hpr : Prim (at0 r)) : (∀ j, j < k → at0 (clr c q r) j = 0) ∧ 0 < at0 (clr c q r) k ∧ Prim (at0 (clr c q r)) := by
 unfold clr
 split
 ·exact ⟨hr, hp, hpr⟩
 ·have h0 : ∀ j, j < k → at0 (comb r q c) j = 0 := fun j hj => by
   rw [comb_at r q c h, hr j hj, hq j (by omega)]
   simp
  have h1 : 0 < at0 (comb r q c) k := by
   rw [comb_at r q c h, hq k (by omega)]
   have := Int.mul_pos hp hc
   omega
  have hg : gcdl (comb r q c) ≠ 0 := fun e => by
   have := gcdl_zero _ e k
   omega
  have hl := ld_eq _ k h0 (by omega)
  refine ⟨fun j hj => tid_low _ j (by omega), ?_, tid_prim _ hg⟩
  have := tid_pos _ hg
  rwa [hl] at this
theorem clr_tq (k : Nat) (q r : List Int) (h : (∀ j, at0 r j = 0) ∨ (Prim (at0 r) ∧ ∃ k, 0 < at0 r k ∧ ∀ j, j < k → at0 r j = 0)) :
  (∀ j, at0 (clr k q r) j = 0) ∨ (Prim (at0 (clr k q r)) ∧ ∃ i, 0 < at0 (clr k q r) i ∧ ∀ j, j < i → at0 (clr k q r) j = 0) := by
 unfold clr
 split
 ·exact h
 ·exact tid_tq _
theorem Red.step {S : V → Prop} {c n : Nat} {P : List (List Int × Nat)} {Q Q' : List (List Int)} (h : Red S c P Q) (hlP : ∀ p ∈ P, p.1.length = n) (hlQ : ∀ q ∈ Q, q.length = n) (q : List Int) (hc : at0 q c ≠ 0) (hq : q ∈ Q)
  (hQ : ∀ x ∈ Q, x = q ∨ x ∈ Q') (hQ' : ∀ x ∈ Q', x ∈ Q) : Red S (c + 1) ((q, c) :: P.map fun p => (clr c q p.1, p.2)) (Q'.map (clr c q)) := by
 have hst := h.st.step q c hc hq hQ hQ' (clr c q) fun r hr => clr_fac c q r (by
  rcases hr with ⟨p, hp, rfl⟩|hr
  ·rw [hlP p hp, hlQ q hq]
  ·rw [hlQ r (hQ' r hr), hlQ q hq]) hc
 have hqp : Prim (at0 q) ∧ 0 < at0 q c := by
  rcases h.tq q hq with h0|⟨hp, k, hk, hl⟩
  ·exact absurd (h0 c) hc
  ·refine ⟨hp, ?_⟩
   have h1 : c ≤ k := Nat.le_of_not_lt fun hlt => by
    have := h.low q hq k hlt
    omega
   have h2 : k ≤ c := Nat.le_of_not_lt fun hlt => hc (hl c hlt)
   have : k = c := by omega
   rw [← this]
   exact hk
 have hcl : ∀ p ∈ P, (∀ j, j < p.2 → at0 (clr c q p.1) j = 0) ∧ 0 < at0 (clr c q p.1) p.2 ∧ Prim (at0 (clr c q p.1)) := fun p hp => by
  have hn := h.ncol p hp
  exact clr_lead p.2 c q p.1 (by rw [hlP p hp, hlQ q hq]) hqp.2 (fun j hj => h.low q hq j (by omega)) (h.lead p hp) (h.pos p hp) (h.prim p hp)
 refine ⟨hst, ?_, ?_, ?_, ?_, ?_, ?_, ?_⟩
 ·intro r hr j hj
  replace hr := List.mem_map.1 hr
  obtain ⟨r, hr, rfl⟩ := hr
  have hrl := hQ' r hr
  obtain ⟨g, α, β, hg, _, e, h0⟩ := clr_fac c q r (by rw [hlQ r hrl, hlQ q hq]) hc
  by_cases ej : j = c
  ·rw [ej, h0]
  ·have := e j
   rw [h.low r hrl j (by omega), h.low q hq j (by omega)] at this
   have : g * at0 (clr c q r) j = 0 := by omega
   exact (Int.mul_eq_zero.1 this).resolve_left hg
 ·intro p hp
  replace hp := List.mem_cons.1 hp
  rcases hp with rfl|hp
  ·exact Nat.lt_succ_self _
  ·replace hp := List.mem_map.1 hp
   obtain ⟨p, hp, rfl⟩ := hp
   have := h.ncol p hp
   show p.2 < c + 1
   omega
 ·intro p hp j hj
  replace hp := List.mem_cons.1 hp
  rcases hp with rfl|hp
  ·exact h.low q hq j hj
  ·replace hp := List.mem_map.1 hp
   obtain ⟨p, hp, rfl⟩ := hp
   exact (hcl p hp).1 j hj
 ·intro p hp
  replace hp := List.mem_cons.1 hp
  rcases hp with rfl|hp
  ·exact hqp.2
  ·replace hp := List.mem_map.1 hp
   obtain ⟨p, hp, rfl⟩ := hp
   exact (hcl p hp).2.1
 ·intro p hp
  replace hp := List.mem_cons.1 hp
  rcases hp with rfl|hp
  ·exact hqp.1
  ·replace hp := List.mem_map.1 hp
   obtain ⟨p, hp, rfl⟩ := hp
   exact (hcl p hp).2.2
 ·intro r hr
  replace hr := List.mem_map.1 hr
  obtain ⟨r, hr, rfl⟩ := hr
  exact clr_tq c q r (h.tq r (hQ' r hr))
 ·simp only [List.map_cons, List.map_map]
  refine List.pairwise_cons.2 ⟨fun k hk => ?_, ?_⟩
  ·obtain ⟨p, hp, rfl⟩ := List.mem_map.1 hk
   exact h.ncol p hp
  ·exact h.sorted
theorem Red.skip {S : V → Prop} {c : Nat} {P : List (List Int × Nat)} {Q : List (List Int)} (h : Red S c P Q) (h0 : ∀ q ∈ Q, at0 q c = 0) : Red S (c + 1) P Q :=
 ⟨h.st, fun q hq j hj => by
  by_cases e : j = c
  ·rw [e]; exact h0 q hq
  ·exact h.low q hq j (by omega), fun p hp => by have := h.ncol p hp; omega, h.lead, h.pos, h.prim, h.tq, h.sorted⟩
def RowSp (m : List (List Int)) : V → Prop := fun v => ∃ r ∈ m, at0 r = v
theorem Red.start (m : List (List Int)) : Red (RowSp m) 0 [] (m.map tid) := by
 refine ⟨St.start _ _ (fun q hq => ?_) (fun v hv => ?_), fun q _ j hj => by omega, by simp, by simp, by simp, by simp, fun q hq => ?_, by simp⟩
 ·obtain ⟨r, hr, rfl⟩ := List.mem_map.1 hq
  obtain ⟨g, hg, e⟩ := tid_fac r
  exact ⟨at0 r, ⟨r, hr, rfl⟩, g, hg, e⟩
 ·obtain ⟨r, hr, rfl⟩ := hv
  obtain ⟨g, hg, e⟩ := tid_fac r
  exact ⟨tid r, List.mem_map_of_mem hr, g, hg, e⟩
 ·obtain ⟨r, hr, rfl⟩ := List.mem_map.1 hq
  exact tid_tq r
end Go.Proofs.YtojkepidkmkmpaaAlg
namespace Go.Proofs.YtojkepidkmkmpaaAlg
def bnd (m : Nat) (j : Nat) : Nat := if j < m then 2 else 1000
theorem prod_small (m : Nat) : ∀ (l : List Nat), (∀ k ∈ l, k < m) → prod (bnd m) l = 2 ^ l.length
 | [], _ => rfl
 | a :: l, h => by
  simp only [prod, List.length_cons]
  rw [prod_small m l fun k hk => h k (by simp [hk])]
  unfold bnd
  rw [if_pos (h a (by simp)), Nat.pow_succ, Nat.mul_comm]
theorem len_sorted : ∀ (l : List Nat) (c : Nat), l.Pairwise (· > ·) → (∀ k ∈ l, k < c) → l.length ≤ c
 | [], c, _, _ => by simp
 | a :: l, c, h, hc => by
  have h' := List.pairwise_cons.1 h
  have := len_sorted l a h'.2 fun k hk => h'.1 k hk
  have := hc a (by simp)
  simp only [List.length_cons]
  omega
theorem Red.len {S : V → Prop} {c : Nat} {P : List (List Int × Nat)} {Q : List (List Int)} (h : Red S c P Q) : P.length ≤ c := by
 have := len_sorted _ c h.sorted fun k hk => by
  obtain ⟨p, hp, rfl⟩ := List.mem_map.1 hk
  exact h.ncol p hp
 simpa using this
theorem fp_le : ∀ n, n < 7 → fct n * 2 ^ n ≤ 46080 ∧ fct n * 2 ^ (n - 1) * 1000 ≤ 23040000 ∧ fct (n + 1) * 2 ^ n * 1000 ≤ 322560000 ∧ fct n * 2 ^ (n - 1) * 2 ≤ 46080 := by decide
theorem bnd_le (m j : Nat) : bnd m j ≤ 1000 := by unfold bnd; split <;> omega
theorem Red.small_rest {S : V → Prop} {c m : Nat} {P : List (List Int × Nat)} {Q : List (List Int)} (h : Red S c P Q) (hb : ∀ o, S o → ∀ j, (o j).natAbs ≤ bnd m j) (hc : c ≤ m) (hm : m ≤ 6) (q : List Int) (hq : q ∈ Q) (j : Nat) : (at0 q j).natAbs ≤ 322560000 := by
 have hl := h.len
 have h1 := h.st.bound_rest (bnd m) hb q hq (by
  rcases h.tq q hq with h | h
  ·exact .inl h
  ·exact .inr h.1) j
 rw [prod_small m _ fun k hk => by
  obtain ⟨p, hp, rfl⟩ := List.mem_map.1 hk
  have := h.ncol p hp
  omega, List.length_map] at h1
 have h2 := (fp_le P.length (by omega)).2.2.1
 have h3 : fct (P.length + 1) * (bnd m j * 2 ^ P.length) ≤ fct (P.length + 1) * (1000 * 2 ^ P.length) := Nat.mul_le_mul_left _ (Nat.mul_le_mul_right _ (bnd_le m j))
 have h4 : fct (P.length + 1) * (1000 * 2 ^ P.length) = fct (P.length + 1) * 2 ^ P.length * 1000 := by
  rw [Nat.mul_comm 1000, Nat.mul_assoc]
 omega
theorem Red.small_piv {S : V → Prop} {c m : Nat} {P : List (List Int × Nat)} {Q : List (List Int)} (h : Red S c P Q) (hb : ∀ o, S o → ∀ j, (o j).natAbs ≤ bnd m j) (hc : c ≤ m) (hm : m ≤ 6) :
  ∃ D : Int, 0 < D ∧ D ≤ 46080 ∧ ∀ p ∈ P, ∃ e : Int, 0 < e ∧ D = at0 p.1 p.2 * e ∧ (∀ j, j < m → (e * at0 p.1 j).natAbs ≤ 46080) ∧ ∀ j, (e * at0 p.1 j).natAbs ≤ 23040000 := by
 have hl := h.len
 obtain ⟨D, hD, hDb, hh⟩ := h.st.bound_piv (bnd m) hb h.prim
 have hk : ∀ k ∈ P.map (·.2), k < m := fun k hk => by
  obtain ⟨p, hp, rfl⟩ := List.mem_map.1 hk
  have := h.ncol p hp
  omega
 rw [prod_small m _ hk, List.length_map] at hDb
 have h2 := fp_le P.length (by omega)
 refine ⟨D.natAbs, by omega, by omega, fun p hp => ?_⟩
 obtain ⟨e, he, hj⟩ := hh p hp
 have hpos := h.pos p hp
 have hnn : (e.natAbs : Int) * at0 p.1 p.2 = D.natAbs := by
  rw [he, Int.natAbs_mul, Int.natCast_mul, Int.mul_comm]
  congr 1
  omega
 have hj' : ∀ j, ((e.natAbs : Int) * at0 p.1 j).natAbs ≤ fct P.length * (bnd m j * 2 ^ (P.length - 1)) := fun j => by
  have := hj j
  rw [prod_small m _ fun k h => hk k (List.mem_of_mem_erase h), List.length_erase_of_mem (List.mem_map_of_mem hp), List.length_map] at this
  rw [Int.natAbs_mul] at this ⊢
  simpa using this
 have he0 : e ≠ 0 := fun e0 => hD (by rw [he, e0, Int.mul_zero])
 refine ⟨e.natAbs, by omega, by rw [← hnn, Int.mul_comm], fun j hjm => ?_, fun j => ?_⟩
 ·have h3 := hj' j
  have h4 : bnd m j = 2 := by unfold bnd;rw [if_pos hjm]
  rw [h4] at h3
  have h5 : fct P.length * (2 * 2 ^ (P.length - 1)) = fct P.length * 2 ^ (P.length - 1) * 2 := by rw [Nat.mul_comm 2, Nat.mul_assoc]
  omega
 ·have h3 := hj' j
  have h4 : fct P.length * (bnd m j * 2 ^ (P.length - 1)) ≤ fct P.length * (1000 * 2 ^ (P.length - 1)) := Nat.mul_le_mul_left _ (Nat.mul_le_mul_right _ (bnd_le m j))
  have h5 : fct P.length * (1000 * 2 ^ (P.length - 1)) = fct P.length * 2 ^ (P.length - 1) * 1000 := by rw [Nat.mul_comm 1000, Nat.mul_assoc]
  omega
theorem Red.small_piv' {S : V → Prop} {c m : Nat} {P : List (List Int × Nat)} {Q : List (List Int)} (h : Red S c P Q) (hb : ∀ o, S o → ∀ j, (o j).natAbs ≤ bnd m j) (hc : c ≤ m) (hm : m ≤ 6) (p : List Int × Nat) (hp : p ∈ P) (j : Nat) : (at0 p.1 j).natAbs ≤ 23040000 := by
 obtain ⟨D, _, _, hh⟩ := h.small_piv hb hc hm
 obtain ⟨e, he, _, _, hj⟩ := hh p hp
 have := hj j
 rw [Int.natAbs_mul] at this
 have : 1 * (at0 p.1 j).natAbs ≤ e.natAbs * (at0 p.1 j).natAbs := Nat.mul_le_mul_right _ (by omega)
 omega
end Go.Proofs.YtojkepidkmkmpaaAlg
end
