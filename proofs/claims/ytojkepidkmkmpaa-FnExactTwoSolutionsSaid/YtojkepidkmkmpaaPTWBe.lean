/-
  Goes on where the text before it ends.
  Conditions: none beside the given statement's own.
-/
import Derived.Test.YtojkepidkmkmpaaPTWBd
set_option linter.unusedVariables false
set_option linter.unusedSimpArgs false
section
namespace Go.Proofs.Ytojkepidkmkmpaa.PFnExactTwoSolutions
open Go.Proofs.YtojkepidkmkmpaaW.PrintWords.Aside0 renaming mk → aM
open List renaming setIfInBounds_toArray → qa, set_cons_zero → qz, set_cons_succ → qs
open Bool renaming true → tt, false → ff
open Option renaming bind_eq_some_iff → bE

open Go.RowKit Go.Proofs.YtojkepidkmkmpaaW.PrintWords Go.Proofs.YtojkepidkmkmpaaW.PrintLast Go.Proofs.YtojkepidkmkmpaaW.PrintMore
attribute [local go_sem] max2_int min2_int max_two min_two max_three min_three max_four min_four
set_option linter.unusedVariables false
set_option linter.unusedSimpArgs false
mutual
def spec_TwoSolutions.j0 : Nat → List (S26) → List Int → Bool → Option ((List (S26)) × (List (S26)) × Bool)
 | 0, _, _, _ => none
 | k + 1, x9, x11, x33 => if x33 = true then (some ((([] : List (S26))), (([] : List (S26))), false)) else (spec_TwoSolutions.l0 k x9 x11 (([] : List (S26))) 0)
def spec_TwoSolutions.l0 : Nat → List (S26) → List Int → List (S26) → Int → Option ((List (S26)) × (List (S26)) × Bool)
 | 0, _, _, _, _ => none
 | k + 1, x9, x11, x12, x13 => if x13 < (x9.length : Int) then (if 0 ≤ x13 then (if x13 < (x11.length : Int) then ((spec_AddRatios.f k ((rd_T26 x9 x13).f0) ((rd_T26 x9 x13).f1) (rd x11 x13) 1).bind fun bt518 => (if bt518.2.2 = true then (if x12.length < 8796093022208 then (spec_TwoSolutions.l0 k x9 x11 (x12 ++ [(⟨bt518.1, bt518.2.1⟩ : S26)]) (wrap64 (x13 + 1))) else (none)) else (some ((([] : List (S26))), (([] : List (S26))), false)))) else (none)) else (none)) else (some (x9, x12, true))
end
def spec_TwoSolutions.f (k : Nat) (l0 : List (List Int)) (l1 : List Int) (l2 : List Int) : Option ((List (S26)) × (List (S26)) × Bool) := (spec_SolutionOf.f k l0 l1 (l2.length : Int)).bind fun bt500 => ((spec_NullVector.f k l0 l2).bind fun t504 => (if bt500.2 = true then (spec_TwoSolutions.j0 k bt500.1 t504 ((t504.length : Int) == 0)) else (spec_TwoSolutions.j0 k bt500.1 t504 true)))
def spec_TwoSolutions.T9 : Bool × List (List Nat × List Nat) := (true, [([], []), ([], []), ([0, 1], [0, 1]), ([2], [2]), ([], []), ([], []), ([4, 5], [4, 5]), ([6], [6]), ([7], [7]), ([3, 8], [3, 8]), ([9], [9]), ([10], [10]), ([10], [10]), ([], []), ([13, 11, 9, 0, 1, 2, 3, 4, 5, 6, 7, 8, 9, 10, 11, 13], [11, 13]), ([12, 14, 0, 1, 2, 3, 4, 5, 6, 7, 8, 9, 10, 11, 12, 13, 14], [12])])
def spec_TwoSolutions.B9 : List Nat := [0, 0, 3, 7, 0, 0, 48, 112, 240, 511, 1023, 2047, 2047, 0, 12287, 32767]
theorem spec_TwoSolutions.tab9 : rtab .any (opsOf Try.f32 9) = spec_TwoSolutions.T9 := by kernel_rfl
theorem spec_TwoSolutions.bits9 : waitsOk spec_TwoSolutions.T9.2 spec_TwoSolutions.B9 = true := by kernel_rfl
set_option maxHeartbeats 8000000 in
set_option maxRecDepth 100000 in
theorem spec_TwoSolutions.calls (k : Nat) (A0 : Option Addr) (c0 : Nat) (l0 : List (List Int)) (A1 : Option Addr) (c1 : Nat) (l1 : List Int) (A2 : Option Addr) (c2 : Nat) (l2 : List Int) (r1 : List (S26)) (r2 : List (S26)) (r3 : Bool) (w : World) (hr0 : Kd.C (Kd.slice 3 (Kd.int .i64)) w A0 l0.length l0) (hc0 : l0.length ≤ c0) (hr1 : Kd.C (Kd.int .i64) w A1 l1.length l1) (hc1 : l1.length ≤ c1) (hr2 : Kd.C (Kd.int .i64) w A2 l2.length l2) (hc2 : l2.length ≤ c2) (h : spec_TwoSolutions.f k l0 l1 l2 = some (r1, r2, r3)) :
 Calls Try.prog 32 #[.slice A0 l0.length c0, .slice A1 l1.length c1, .slice A2 l2.length c2] w fun e w' => ∃ v0_ v1_ : Value, e = .returned (.tuple #[v0_, v1_, .bool r3]) ∧ Kd.R k26 26 w' w.heap.size (fun k_ => some k_ ≠ (v1_ : Value).ownBlock) v0_ r1 ∧ Kd.R k26 26 w' w.heap.size (fun k_ => some k_ ≠ (v0_ : Value).ownBlock) v1_ r2 ∧ Below w.heap.size w w' := by
 have hu26:=Try.underlying26;have HR0:=aM hr0;have HC0:=aM hc0;clear hr0 hc0;have HR1:=aM hr1;have HC1:=aM hc1;clear hr1 hc1;have HR2:=aM hr2;have HC2:=aM hc2;clear hr2 hc2;have HB:=aM (Below.refl w.heap.size w);have H:((spec_SolutionOf.f k l0 l1 (l2.length:Int)).bind fun bt500=>((spec_NullVector.f k l0 l2).bind fun t504=>(if bt500.2=true then (spec_TwoSolutions.j0 k bt500.1 t504 ((t504.length:Int) == 0)) else (spec_TwoSolutions.j0 k bt500.1 t504 true))))=some (r1,r2,r3):=h;clear h;obtain ⟨⟨t500,t501⟩,A4,H⟩:=bz H;dsimp only at H;obtain ⟨t504,A5,H⟩:=bz H;have HC6:=aM H;clear H;go_enter Try.func32,Try.ntmps32;go_upto_region 3 with (first|((with_reducible refine gate_callee (f:=26) rfl ?_);refine gm (some 21) Try.func26 #[.slice A0 l0.length c0,.slice A1 l1.length c1,.int .i64 (l2.length:Int)] ?_;(with_reducible refine (spec_SolutionOf.calls k _ _ l0 _ _ l1 (l2.length:Int) t500 t501 _ ?side1 ?side2 ?side3 ?side4 A4.out).mono ?_);(case side1=>exact zc HR0.out);(case side2=>exact HC0.out);(case side3=>exact zc HR1.out);(case side4=>exact HC1.out);rintro e w7 ⟨v502,rfl,ho0,hb⟩;refine ⟨_,rfl,?_⟩;have HO503:=aM (Kd.R_lower ho0 (below_size (zb HB.out)));replace HB:=aM (below_step (zb HB.out) hb);(try clear hb);(try clear hb2);(try clear hk);(try clear hi);(try clear ho0))|((with_reducible refine gate_callee (f:=52) rfl ?_);refine gm (some 26) Try.func52 #[.slice A0 l0.length c0,.slice A2 l2.length c2] ?_;(with_reducible refine (spec_NullVector.calls k _ _ l0 _ _ l2 t504 _ ?side1 ?side2 ?side3 ?side4 A5.out).mono ?_);(case side1=>exact zc (Kd.C_below HR0.out HB.out));(case side2=>exact HC0.out);(case side3=>exact zc (Kd.C_below HR2.out HB.out));(case side4=>exact HC2.out);rintro e w8 ⟨v505,rfl,ho0,hb⟩;refine ⟨_,rfl,?_⟩;replace HO503:=aM (Kd.R_below (zr HO503.out) hb);have HO506:=aM (Kd.R_lower ho0 (below_size (zb HB.out)));replace HB:=aM (below_step (zb HB.out) hb);(try clear hb);(try clear hb2);(try clear hk);(try clear hi);(try clear ho0)))
 (try simp only [Act.put,qa,qz,qs]);go_cut [33] (fun v33 wc=>∃(kq:Nat) (x33_5:Bool),v33 = .bool x33_5∧Aside0 (spec_TwoSolutions.j0 kq t500 t504 x33_5=some (r1,r2,r3))∧Aside0 (kq≤k)∧Aside0 (Kd.R k26 26 wc w.heap.size (fun _=>True) v502 t500)∧Aside0 (Kd.R (Kd.int .i64) 3 wc w.heap.size (fun _=>True) v505 t504)∧Aside0 (Below w.heap.size w wc))
 case first=>
  have H:=HC6.out;clear HC6;by_cases c9:t501=true
  ·subst c9;replace H:=ifT H;have H':=aM H;clear H;obtain ⟨Ao10,co10,eo10⟩:=Kd.R_slice HO506.out;subst eo10;go_wp2;go_meet;(case rel=>exact ⟨_,(((t504.length:Int) == 0)),zt,H',⟨by first|omega|exact Nat.le_refl _⟩,⟨zr HO503.out⟩,⟨zr HO506.out⟩,⟨zb HB.out⟩⟩)
  ·replace c9:=Bool.eq_false_iff.mpr c9;subst c9;replace H:=ifF H;have H':=aM H;clear H;go_wp2;go_meet;(case rel=>exact ⟨_,(true),zt,H',⟨by first|omega|exact Nat.le_refl _⟩,⟨zr HO503.out⟩,⟨zr HO506.out⟩,⟨zb HB.out⟩⟩)
 case rest=>
  clear HC6;(try clear c1);(try clear c2);(try clear p2);(try clear c3);(try clear c5);(try clear c9);obtain ⟨kq,x33_5,rfl,HA,HJ5,HO_9,HO_11,HB⟩:=hcut;cases kq with
  | zero=>exact absurd HA.out (by simp [spec_TwoSolutions.j0])
  | succ kj5=>
   have H:=HA.out;clear HA;simp only [spec_TwoSolutions.j0] at H;by_cases c11:x33_5=true
   ·subst c11;replace H:=ifT H;obtain ⟨y507,hy507⟩:∃y_:List (S26),y_=(([]:List (S26))):=⟨_,rfl⟩;replace H:(some (y507,(([]:List (S26))),false))=some (r1,r2,r3):=(by first|(rw [hy507];with_reducible exact H)|(have H2_:=(Option.bind_some _ _).symm.trans H;rw [hy507];with_reducible exact H2_)|(have H2_:=(Option.bind_some _ _).symm.trans H;with_reducible exact H2_)|with_reducible exact H|(rw [hy507];exact H)|exact H);have Ny507:=aM hy507;clear hy507;obtain ⟨y510,hy510⟩:∃y_:List (S26),y_=(([]:List (S26))):=⟨_,rfl⟩;replace H:(some (y507,y510,false))=some (r1,r2,r3):=(by first|(rw [hy510];with_reducible exact H)|(have H2_:=(Option.bind_some _ _).symm.trans H;rw [hy510];with_reducible exact H2_)|(have H2_:=(Option.bind_some _ _).symm.trans H;with_reducible exact H2_)|with_reducible exact H|(rw [hy510];exact H)|exact H);have Ny510:=aM hy510;clear hy510;simp only [Option.some.injEq,Prod.mk.injEq] at H;obtain ⟨rfl,rfl,rfl⟩:=H;go_wp2_with (first|((with_reducible refine gate_dst (N:=34) rfl ?_);(try (refine gate_guard (by rfl) ?_;dsimp only));refine Kd.R_lit k26 _ 26 ?hg (N:=34) ?hd (xs:=([]:List (S26))) (inner:=[]) (ok:=fun _=>True) (okp:=fun _=>True) ?hr ?hp (fun _ hk=>hk) trivial (Below.refl _ _) (Nat.le_refl _) (by simp) ?_;(case hd=>rfl);(case hg=>rfl);(case hr=>first|(go_simp;done)|(go_simp;rfl));(case hp=>exact (Reps.none _ _));intro v508 w12 ho13 hb hg_ hnew_;clear hg_ hnew_;(first|rw [← Ny507.out] at ho13|(simp only [Int.reduceToNat] at ho13;rw [← Ny507.out] at ho13));replace HO_11:=aM (Kd.R_below (zr HO_11.out) hb);have HO509:=aM (Kd.R_lower (Kd.R_new' ho13 (Kd.R_lt (zr HO_9.out))) (below_size (zb HB.out)));replace HO_9:=aM (Kd.R_elder' (zr HO_9.out) (Kd.R_base ho13) hb);replace HB:=aM (below_step (zb HB.out) hb);clear hb ho13)|((with_reducible refine gate_dst (N:=35) rfl ?_);(try (refine gate_guard (by rfl) ?_;dsimp only));refine Kd.R_lit k26 _ 26 ?hg (N:=35) ?hd (xs:=([]:List (S26))) (inner:=[]) (ok:=fun _=>True) (okp:=fun _=>True) ?hr ?hp (fun _ hk=>hk) trivial (Below.refl _ _) (Nat.le_refl _) (by simp) ?_;(case hd=>rfl);(case hg=>rfl);(case hr=>first|(go_simp;done)|(go_simp;rfl));(case hp=>exact (Reps.none _ _));intro v511 w14 ho15 hb hg_ hnew_;clear hg_ hnew_;(first|rw [← Ny510.out] at ho15|(simp only [Int.reduceToNat] at ho15;rw [← Ny510.out] at ho15));replace HO_11:=aM (Kd.R_below (zr HO_11.out) hb);have HO512:=aM (Kd.R_lower (Kd.R_new' (Kd.R_new' ho15 (Kd.R_lt (zr HO_9.out))) (Kd.R_lt (zr HO509.out))) (below_size (zb HB.out)));replace HO_9:=aM (Kd.R_elder' (zr HO_9.out) (Kd.R_base ho15) hb);replace HO509:=aM (Kd.R_elder' (zr HO509.out) (Kd.R_base ho15) hb);replace HB:=aM (below_step (zb HB.out) hb);clear hb ho15));go_ret3;exact ⟨_,_,by first|rfl|(simp [errW_none,errW_some]<;>rfl)|(simp [*,errW_none,errW_some]<;>rfl),by (with_reducible repeat (first|apply Kd.R_alloc|apply Kd.R_drewN|apply Kd.R_drew));exact Kd.R_mono HO509.out (fun _ hk=>hk.2),by (with_reducible repeat (first|apply Kd.R_alloc|apply Kd.R_drewN|apply Kd.R_drew));exact Kd.R_mono HO512.out (fun _ hk=>hk.2),zb HB.out⟩
   ·replace c11:=Bool.eq_false_iff.mpr c11;subst c11;replace H:=ifF H;obtain ⟨y513,hy513⟩:∃y_:List (S26),y_=(([]:List (S26))):=⟨_,rfl⟩;replace H:(spec_TwoSolutions.l0 kj5 t500 t504 y513 0)=some (r1,r2,r3):=(by first|(rw [hy513];with_reducible exact H)|(have H2_:=(Option.bind_some _ _).symm.trans H;rw [hy513];with_reducible exact H2_)|(have H2_:=(Option.bind_some _ _).symm.trans H;with_reducible exact H2_)|with_reducible exact H|(rw [hy513];exact H)|exact H);have Ny513:=aM hy513;clear hy513;have H':=aM H;clear H;go_wp2_with (first|((with_reducible refine gate_dst (N:=36) rfl ?_);(try (refine gate_guard (by rfl) ?_;dsimp only));refine Kd.R_lit k26 _ 26 ?hg (N:=36) ?hd (xs:=([]:List (S26))) (inner:=[]) (ok:=fun _=>True) (okp:=fun _=>True) ?hr ?hp (fun _ hk=>hk) trivial (Below.refl _ _) (Nat.le_refl _) (by simp) ?_;(case hd=>rfl);(case hg=>rfl);(case hr=>first|(go_simp;done)|(go_simp;rfl));(case hp=>exact (Reps.none _ _));intro v514 w16 ho17 hb hg_ hnew_;clear hg_ hnew_;(first|rw [← Ny513.out] at ho17|(simp only [Int.reduceToNat] at ho17;rw [← Ny513.out] at ho17));replace HO_11:=aM (Kd.R_below (zr HO_11.out) hb);have HO515:=aM (Kd.R_lower (Kd.R_new' ho17 (Kd.R_lt (zr HO_9.out))) (below_size (zb HB.out)));replace HO_9:=aM (Kd.R_elder' (zr HO_9.out) (Kd.R_base ho17) hb);replace HB:=aM (below_step (zb HB.out) hb);clear hb ho17));go_loopg [12,13] kj5 (fun kq v12 v13 w'=>∃(x12_2:List (S26)) (x13_2:Int),v13 = .int .i64 x13_2∧Aside0 (spec_TwoSolutions.l0 kq t500 t504 x12_2 x13_2=some (r1,r2,r3))∧Aside0 (kq≤kj5)∧Aside0 (Kd.R k26 26 w' w.heap.size (fun k_=>some k_≠(v12:Value).ownBlock) v502 t500)∧Aside0 (Kd.R (Kd.int .i64) 3 w' w.heap.size (fun _=>True) v505 t504)∧Aside0 (Kd.R k26 26 w' w.heap.size (fun k_=>some k_≠(v502:Value).ownBlock) v12 x12_2)∧Aside0 (Below w.heap.size w w'));(case atStart=>exact ⟨(y513),(0),zt,H',⟨Nat.le_refl _⟩,⟨by (with_reducible repeat (first|apply Kd.R_alloc|apply Kd.R_drewN|apply Kd.R_drew));exact Kd.R_mono HO_9.out (fun _ hk=>hk.2)⟩,⟨zr HO_11.out⟩,⟨by (with_reducible repeat (first|apply Kd.R_alloc|apply Kd.R_drewN|apply Kd.R_drew));exact Kd.R_mono HO515.out (fun _ hk=>hk.2)⟩,⟨zb HB.out⟩⟩)
    case round=>
     clear H';(try clear c1);(try clear c2);(try clear p2);(try clear c3);(try clear c5);(try clear c9);(try clear c11);(try clear p2);obtain ⟨x12_2,x13_2,rfl,HA,HK2,HO_9,HO_11,HO_12,HB⟩:=hrel;cases gk with
     | zero=>exact absurd HA.out (by simp [spec_TwoSolutions.l0])
     | succ k2=>
      have H:=HA.out;clear HA;simp only [spec_TwoSolutions.l0] at H;by_cases c18:x13_2<(t500.length:Int)
      ·rw [if_pos c18] at H;have c18b0:decide (x13_2<(t500.length:Int))=true:=decide_eq_true c18;clear c18;obtain ⟨c19b0,H⟩:=iN H;obtain ⟨c20b0,H⟩:=iN H;obtain ⟨⟨t518,t519,t520⟩,A21,H⟩:=bz H;dsimp only at H;by_cases c22:t520=true
       ·subst c22;replace H:=ifT H;by_cases c23:x12_2.length<8796093022208
        ·rw [if_pos c23] at H;have LMc23:=aM c23;clear c23;obtain ⟨y522,hy522⟩:∃y_:List (S26),y_=(x12_2 ++ [(⟨t518,t519⟩:S26)]):=⟨_,rfl⟩;replace H:(spec_TwoSolutions.l0 k2 t500 t504 y522 (wrap64 (x13_2+1)))=some (r1,r2,r3):=(by first|(rw [hy522];with_reducible exact H)|(have H2_:=(Option.bind_some _ _).symm.trans H;rw [hy522];with_reducible exact H2_)|(have H2_:=(Option.bind_some _ _).symm.trans H;with_reducible exact H2_)|with_reducible exact H|(rw [hy522];exact H)|exact H);have Ny522:=aM hy522;clear hy522;have H':=aM H;clear H;obtain ⟨Ao24,co24,eo24⟩:=Kd.R_slice HO_9.out;subst eo24;(try go_wp2);replace HO_9:=aM (Kd.R_drew HO_9.out);replace HO_11:=aM (Kd.R_drew HO_11.out);replace HO_12:=aM (Kd.R_drew HO_12.out);replace HB:=aM (below_drew1 HB.out);have p516:0≤(x13_2:Int):=zd;have q516:x13_2<(t500.length:Int):=zd;obtain ⟨ad516,e516,hx516_0,hx516_1⟩:=at_T26 (Kd.R_reads' HO_9.out).2.2 x13_2 p516 q516;cases e516;replace p516:=eq_true p516;replace q516:=eq_true q516;obtain ⟨Ao26,co26,eo26⟩:=Kd.R_slice HO_11.out;(first|subst eo26|(injection eo26 with f1_ f2_ f3_;have f4_:=f1_.symm;have f5_:=f3_.symm;clear f1_ f2_ f3_;subst f4_;subst f5_));have p517:0≤(x13_2:Int):=zd;have q517:x13_2<(t504.length:Int):=zd;obtain ⟨ad517,e517,hx517_0⟩:=Kd.at_int (Kd.R_reads' HO_11.out).2.2 x13_2 p517 q517;cases e517;replace p517:=eq_true p517;replace q517:=eq_true q517;refine start_ (n:=16) (S:=fun w'=>w'.cell? (ad516.add ((x13_2).toNat*2))=some (.int .i64 ((rd_T26 t500 x13_2).f0))∧w'.cell? ⟨(ad516.add ((x13_2).toNat*2)).block,(ad516.add ((x13_2).toNat*2)).off+1,none⟩=some (.int .i64 ((rd_T26 t500 x13_2).f1))∧w'.cell? (ad517.add (x13_2).toNat)=some (.int .i64 (rd t504 x13_2))) (ds:=[]) #[ff,ff,ff,ff,ff,ff,ff,ff,ff,ff,ff,ff,ff,ff,ff,ff] (by kernel_rfl) rfl rfl ⟨hx516_0,hx516_1,hx517_0⟩ (fun hHeld=>?_);refine with_tabW spec_TwoSolutions.tab9 spec_TwoSolutions.bits9 (fun HT_ HW_=>?_);generalize wr.drew=w25 at HO_9 HO_11 HO_12 HB hx516_0 hx516_1 hx517_0 hHeld ⊢;refine pu 0 (some 44) #[tt,ff,ff,ff,ff,ff,ff,ff,ff,ff,ff,ff,ff,ff,ff,ff] rfl rfl HT_ ?_;refine pu 1 (some 45) #[tt,tt,ff,ff,ff,ff,ff,ff,ff,ff,ff,ff,ff,ff,ff,ff] rfl rfl HT_ ?_;refine pu 2 (some 46) #[tt,tt,tt,ff,ff,ff,ff,ff,ff,ff,ff,ff,ff,ff,ff,ff] rfl rfl HT_ ?_;refine pu 4 (some 48) #[tt,tt,tt,ff,tt,ff,ff,ff,ff,ff,ff,ff,ff,ff,ff,ff] rfl rfl HT_ ?_;refine pu 5 (some 49) #[tt,tt,tt,ff,tt,tt,ff,ff,ff,ff,ff,ff,ff,ff,ff,ff] rfl rfl HT_ ?_;refine pu 6 (some 50) #[tt,tt,tt,ff,tt,tt,tt,ff,ff,ff,ff,ff,ff,ff,ff,ff] rfl rfl HT_ ?_;refine take_ (i:=3) (N:=some 47) (v:=?_) (a':=?_) #[tt,tt,tt,tt,tt,tt,tt,ff,ff,ff,ff,ff,ff,ff,ff,ff] rfl rfl (take_ofW HT_.out HW_.out (by kernel_rfl)) (fun _ _ _ h=>h) (Or.inl ⟨by rfl,?_⟩) hHeld ?_ ?_;rotate_left
         ·rintro w' ⟨s0,s1,s2⟩;go_simp;(with_reducible rfl)
         rotate_left
         ·simp only [Act.put,qa,qz,qs,i64_w,i32_w];rfl
         refine take_ (i:=7) (N:=some 51) (v:=?_) (a':=?_) #[tt,tt,tt,tt,tt,tt,tt,tt,ff,ff,ff,ff,ff,ff,ff,ff] rfl rfl (take_ofW HT_.out HW_.out (by kernel_rfl)) (fun _ _ _ h=>h) (Or.inl ⟨by rfl,?_⟩) hHeld ?_ ?_;rotate_left
         ·rintro w' ⟨s0,s1,s2⟩;go_simp;(with_reducible rfl)
         rotate_left
         ·simp only [Act.put,qa,qz,qs,i64_w,i32_w];rfl
         refine pu 8 (some 52) #[tt,tt,tt,tt,tt,tt,tt,tt,tt,ff,ff,ff,ff,ff,ff,ff] rfl rfl HT_ ?_;refine join_ (σ:=Nat) 2 #[tt,tt,tt,tt,tt,tt,tt,tt,tt,tt,tt,tt,tt,tt,ff,ff] (fun s_=>[(53,.tuple #[.agg #[.int .i64 t518,.int .i64 t519],.bool true]),(14,.pointer (some ⟨s_,0,none⟩)),(43,.tuple #[.agg #[.int .i64 t518,.int .i64 t519],.bool true]),(54,.agg #[.int .i64 t518,.int .i64 t519]),(55,.bool true)]) (fun s_ w'=>(w'.cell? (ad516.add ((x13_2).toNat*2))=some (.int .i64 ((rd_T26 t500 x13_2).f0))∧w'.cell? ⟨(ad516.add ((x13_2).toNat*2)).block,(ad516.add ((x13_2).toNat*2)).off+1,none⟩=some (.int .i64 ((rd_T26 t500 x13_2).f1))∧w'.cell? (ad517.add (x13_2).toNat)=some (.int .i64 (rd t504 x13_2)))∧(Kd.R (Kd.int .i64) 3 w' w.heap.size (fun _=>True) (.slice (some ad517) t504.length co26) t504)∧(Kd.R k26 26 w' w.heap.size (fun k_=>some k_≠(.slice (some ad516) t500.length co24:Value).ownBlock∧k_≠s_) u12 x12_2)∧(Kd.R k26 26 w' w.heap.size (fun k_=>some k_≠(u12:Value).ownBlock∧k_≠s_) (.slice (some ad516) t500.length co24) t500)∧(w'.heap[s_]?=some (.cells #[.int .i64 0,.int .i64 0] 26 (0,0)))∧(w.heap.size≤s_)∧(w.heap.size≤s_)∧(Below w.heap.size w w')) ?_ ?_;rotate_left
         ·intro hCont;refine two_ (i:=9) (j:=13) (Ni:=some 53) (Nj:=some 14) #[tt,tt,tt,tt,tt,tt,tt,tt,tt,tt,ff,ff,ff,ff,ff,ff] #[tt,tt,tt,tt,tt,tt,tt,tt,tt,ff,ff,ff,ff,tt,ff,ff] rfl rfl rfl rfl (two_of HT_.out (by kernel_rfl)) (by decide) (by decide) (fun K hK=>?_) (fun K hK=>?_)
          ·skip
           refine gs Try.func79 #[.agg #[.int .i64 ((rd_T26 t500 x13_2).f0),.int .i64 ((rd_T26 t500 x13_2).f1)],.agg #[.int .i64 (rd t504 x13_2),.int .i64 1]] ?_;(with_reducible refine (spec_AddRatios.calls k2 ((rd_T26 t500 x13_2).f0) ((rd_T26 t500 x13_2).f1) (rd t504 x13_2) 1 t518 t519 true _ A21.out).mono ?_);rintro e w27 ⟨rfl,hb⟩;have HS0_:=(hb.cell (World.block_lt_of_cell? _ _ (hHeld.1))).trans (hHeld.1);have HS1_:=(hb.cell (World.block_lt_of_cell? _ _ (hHeld.2.1))).trans (hHeld.2.1);have HS2_:=(hb.cell (World.block_lt_of_cell? _ _ (hHeld.2.2))).trans (hHeld.2.2);refine ⟨_,rfl,?_⟩;replace HO_9:=aM (Kd.R_below (zr HO_9.out) hb);replace HO_11:=aM (Kd.R_below (zr HO_11.out) hb);replace HO_12:=aM (Kd.R_below (zr HO_12.out) hb);replace HB:=aM (below_step (zb HB.out) hb);(try clear hb);(try clear hb2);(try clear hk);(try clear hi);refine hK.out _ _ ⟨HS0_,HS1_,HS2_⟩ (fun hHeld=>?_);clear hK K;refine norm_ (a':=?_) ?_ ?_;rotate_left
           ·show Act.put _ (some 53) _=_;simp only [Act.put,qa,qz,qs,i64_w,i32_w];rfl
           refine pu 10 (some 43) #[tt,tt,tt,tt,tt,tt,tt,tt,tt,tt,tt,ff,ff,ff,ff,ff] rfl rfl HT_ ?_;refine pu 11 (some 54) #[tt,tt,tt,tt,tt,tt,tt,tt,tt,tt,tt,tt,ff,ff,ff,ff] rfl rfl HT_ ?_;refine pu 12 (some 55) #[tt,tt,tt,tt,tt,tt,tt,tt,tt,tt,tt,tt,tt,ff,ff,ff] rfl rfl HT_ ?_;refine one_ (i:=13) (N:=some 14) #[tt,tt,tt,tt,tt,tt,tt,tt,tt,tt,tt,tt,tt,tt,ff,ff] rfl rfl (one_of HT_.out (by kernel_rfl)) (by decide) (fun K hK=>?_);refine box_step ?hg (N:=14) ?hd (cs:=#[.int .i64 0,.int .i64 0]) (t:=26) ?hr ?_;(case hd=>rfl);(case hg=>rfl);(case hr=>first|(go_simp;done)|(go_simp;rfl));intro gb521 hg w28 hbox hb;have HS0_:=(hb.cell (World.block_lt_of_cell? _ _ (hHeld.1))).trans (hHeld.1);have HS1_:=(hb.cell (World.block_lt_of_cell? _ _ (hHeld.2.1))).trans (hHeld.2.1);have HS2_:=(hb.cell (World.block_lt_of_cell? _ _ (hHeld.2.2))).trans (hHeld.2.2);replace HO_9:=aM (Kd.R_below (Kd.R_elderB (zr HO_9.out) gb521 (Nat.le_of_eq hg.symm)) hb);replace HO_11:=aM (Kd.R_below (zr HO_11.out) hb);replace HO_12:=aM (Kd.R_below (Kd.R_elderB (zr HO_12.out) gb521 (Nat.le_of_eq hg.symm)) hb);have BK521:=aM (hbox);have GW521:=aM (zg hg (zb HB.out));have GE521:=aM (zg hg (zb HB.out));replace HB:=aM (below_step (zb HB.out) hb);clear hb hbox hg;refine hK.out _ _ ⟨HS0_,HS1_,HS2_⟩ (fun hHeld=>?_);clear hK K;refine norm_ (a':=?_) ?_ ?_;rotate_left
           ·show Act.put _ (some 14) _=_;simp only [Act.put,qa,qz,qs,i64_w,i32_w];rfl
           exact norm_ (by simp only [putAll,Act.put,qa,qz,qs]) (hCont (gb521) _ ⟨hHeld,(zr HO_11.out),(zr HO_12.out),(zr HO_9.out),(zk BK521.out),GW521.out,GE521.out,(zs HB.out)⟩)
          ·skip
           refine box_step ?hg (N:=14) ?hd (cs:=#[.int .i64 0,.int .i64 0]) (t:=26) ?hr ?_;(case hd=>rfl);(case hg=>rfl);(case hr=>first|(go_simp;done)|(go_simp;rfl));intro gb521 hg w27 hbox hb;have HS0_:=(hb.cell (World.block_lt_of_cell? _ _ (hHeld.1))).trans (hHeld.1);have HS1_:=(hb.cell (World.block_lt_of_cell? _ _ (hHeld.2.1))).trans (hHeld.2.1);have HS2_:=(hb.cell (World.block_lt_of_cell? _ _ (hHeld.2.2))).trans (hHeld.2.2);replace HO_9:=aM (Kd.R_below (Kd.R_elderB (zr HO_9.out) gb521 (Nat.le_of_eq hg.symm)) hb);replace HO_11:=aM (Kd.R_below (zr HO_11.out) hb);replace HO_12:=aM (Kd.R_below (Kd.R_elderB (zr HO_12.out) gb521 (Nat.le_of_eq hg.symm)) hb);have BK521:=aM (hbox);have GW521:=aM (zg hg (zb HB.out));have GE521:=aM (zg hg (zb HB.out));replace HB:=aM (below_step (zb HB.out) hb);clear hb hbox hg;refine hK.out _ _ ⟨HS0_,HS1_,HS2_⟩ (fun hHeld=>?_);clear hK K;refine norm_ (a':=?_) ?_ ?_;rotate_left
           ·show Act.put _ (some 14) _=_;simp only [Act.put,qa,qz,qs,i64_w,i32_w];rfl
           refine one_ (i:=9) (N:=some 53) #[tt,tt,tt,tt,tt,tt,tt,tt,tt,tt,ff,ff,ff,tt,ff,ff] rfl rfl (one_of HT_.out (by kernel_rfl)) (by decide) (fun K hK=>?_);refine gs Try.func79 #[.agg #[.int .i64 ((rd_T26 t500 x13_2).f0),.int .i64 ((rd_T26 t500 x13_2).f1)],.agg #[.int .i64 (rd t504 x13_2),.int .i64 1]] ?_;(with_reducible refine (spec_AddRatios.calls k2 ((rd_T26 t500 x13_2).f0) ((rd_T26 t500 x13_2).f1) (rd t504 x13_2) 1 t518 t519 true _ A21.out).mono ?_);rintro e w28 ⟨rfl,hb⟩;have HS0_:=(hb.cell (World.block_lt_of_cell? _ _ (hHeld.1))).trans (hHeld.1);have HS1_:=(hb.cell (World.block_lt_of_cell? _ _ (hHeld.2.1))).trans (hHeld.2.1);have HS2_:=(hb.cell (World.block_lt_of_cell? _ _ (hHeld.2.2))).trans (hHeld.2.2);refine ⟨_,rfl,?_⟩;replace HO_9:=aM (Kd.R_below (zr HO_9.out) hb);replace HO_11:=aM (Kd.R_below (zr HO_11.out) hb);replace HO_12:=aM (Kd.R_below (zr HO_12.out) hb);replace BK521:=aM (blk_below (g:=gb521) (o:=.cells #[.int .i64 0,.int .i64 0] 26 (0,0)) (zk BK521.out) hb);replace HB:=aM (below_step (zs HB.out) hb);(try clear hb);(try clear hb2);(try clear hk);(try clear hi);refine hK.out _ _ ⟨HS0_,HS1_,HS2_⟩ (fun hHeld=>?_);clear hK K;refine norm_ (a':=?_) ?_ ?_;rotate_left
           ·show Act.put _ (some 53) _=_;simp only [Act.put,qa,qz,qs,i64_w,i32_w];rfl
           refine pu 10 (some 43) #[tt,tt,tt,tt,tt,tt,tt,tt,tt,tt,tt,ff,ff,tt,ff,ff] rfl rfl HT_ ?_;refine pu 11 (some 54) #[tt,tt,tt,tt,tt,tt,tt,tt,tt,tt,tt,tt,ff,tt,ff,ff] rfl rfl HT_ ?_;refine pu 12 (some 55) #[tt,tt,tt,tt,tt,tt,tt,tt,tt,tt,tt,tt,tt,tt,ff,ff] rfl rfl HT_ ?_;exact norm_ (by simp only [putAll,Act.put,qa,qz,qs]) (hCont (gb521) _ ⟨hHeld,(zr HO_11.out),(zr HO_12.out),(zr HO_9.out),(zk BK521.out),GW521.out,GE521.out,(zs HB.out)⟩)
         rintro gb521 w29 ⟨hS_,h0_,h1_,h2_,h3_,h4_,h5_,h6_⟩;replace HO_11:Aside0 (Kd.R (Kd.int .i64) 3 w29 w.heap.size (fun _=>True) (.slice (some ad517) t504.length co26) t504):=⟨h0_⟩;replace HO_12:Aside0 (Kd.R k26 26 w29 w.heap.size (fun k_=>some k_≠(.slice (some ad516) t500.length co24:Value).ownBlock∧k_≠gb521) u12 x12_2):=⟨h1_⟩;replace HO_9:Aside0 (Kd.R k26 26 w29 w.heap.size (fun k_=>some k_≠(u12:Value).ownBlock∧k_≠gb521) (.slice (some ad516) t500.length co24) t500):=⟨h2_⟩;have BK521:Aside0 (w29.heap[gb521]?=some (.cells #[.int .i64 0,.int .i64 0] 26 (0,0))):=⟨h3_⟩;have GW521:Aside0 (w.heap.size≤gb521):=⟨h4_⟩;have GE521:Aside0 (w.heap.size≤gb521):=⟨h5_⟩;replace HB:Aside0 (Below w.heap.size w w29):=⟨h6_⟩;clear h0_ h1_ h2_ h3_ h4_ h5_ h6_;have hHeld:w29.cell? (ad516.add ((x13_2).toNat*2))=some (.int .i64 ((rd_T26 t500 x13_2).f0))∧w29.cell? ⟨(ad516.add ((x13_2).toNat*2)).block,(ad516.add ((x13_2).toNat*2)).off+1,none⟩=some (.int .i64 ((rd_T26 t500 x13_2).f1))∧w29.cell? (ad517.add (x13_2).toNat)=some (.int .i64 (rd t504 x13_2)):=hS_;refine norm_ (a':=?_) ?_ ?_;rotate_left
         ·simp only [putAll,Act.put,qa,qz,qs];rfl
         refine one_ (i:=14) (N:=none) #[tt,tt,tt,tt,tt,tt,tt,tt,tt,tt,tt,tt,tt,tt,tt,ff] rfl rfl (one_of HT_.out (by kernel_rfl)) (by decide) (fun K hK=>?_);have hs30:w29.cell? ⟨gb521,0,none⟩=some (.int .i64 0):=(blk_cell BK521.out 0).trans rfl;have hfs30:=blk_frozen BK521.out 0;have hs31:w29.cell? ⟨gb521,1,none⟩=some (.int .i64 0):=(blk_cell BK521.out 1).trans rfl;have hfs31:=blk_frozen BK521.out 1;refine skip_ (w1:=?_) (by rfl) rfl ?_ ?_;rotate_left
         ·go_simp;rfl
         refine hK.out _ _ ⟨((cell_far (p:=⟨gb521,_,none⟩) (by first|exact Kd.own_blk (Kd.R_away HO_9.out (fun _ hk=>hk.2))|(rw [add_block];exact Kd.own_blk (Kd.R_away HO_9.out (fun _ hk=>hk.2)))|(show (Addr.add _ _).block≠_;rw [add_block];exact Kd.own_blk (Kd.R_away HO_9.out (fun _ hk=>hk.2)))|(dsimp only;exact Kd.own_blk (Kd.R_away HO_9.out (fun _ hk=>hk.2)))) _).trans (((cell_far (p:=⟨gb521,_,none⟩) (by first|exact Kd.own_blk (Kd.R_away HO_9.out (fun _ hk=>hk.2))|(rw [add_block];exact Kd.own_blk (Kd.R_away HO_9.out (fun _ hk=>hk.2)))|(show (Addr.add _ _).block≠_;rw [add_block];exact Kd.own_blk (Kd.R_away HO_9.out (fun _ hk=>hk.2)))|(dsimp only;exact Kd.own_blk (Kd.R_away HO_9.out (fun _ hk=>hk.2)))) _).trans (hHeld.1)))),((cell_far (p:=⟨gb521,_,none⟩) (by first|exact Kd.own_blk (Kd.R_away HO_9.out (fun _ hk=>hk.2))|(rw [add_block];exact Kd.own_blk (Kd.R_away HO_9.out (fun _ hk=>hk.2)))|(show (Addr.add _ _).block≠_;rw [add_block];exact Kd.own_blk (Kd.R_away HO_9.out (fun _ hk=>hk.2)))|(dsimp only;exact Kd.own_blk (Kd.R_away HO_9.out (fun _ hk=>hk.2)))) _).trans (((cell_far (p:=⟨gb521,_,none⟩) (by first|exact Kd.own_blk (Kd.R_away HO_9.out (fun _ hk=>hk.2))|(rw [add_block];exact Kd.own_blk (Kd.R_away HO_9.out (fun _ hk=>hk.2)))|(show (Addr.add _ _).block≠_;rw [add_block];exact Kd.own_blk (Kd.R_away HO_9.out (fun _ hk=>hk.2)))|(dsimp only;exact Kd.own_blk (Kd.R_away HO_9.out (fun _ hk=>hk.2)))) _).trans (hHeld.2.1)))),((cell_far (p:=⟨gb521,_,none⟩) (by first|exact Kd.own_blk (Kd.R_ne HO_11.out BK521.out (by decide))|(rw [add_block];exact Kd.own_blk (Kd.R_ne HO_11.out BK521.out (by decide)))|(show (Addr.add _ _).block≠_;rw [add_block];exact Kd.own_blk (Kd.R_ne HO_11.out BK521.out (by decide)))|(dsimp only;exact Kd.own_blk (Kd.R_ne HO_11.out BK521.out (by decide)))) _).trans (((cell_far (p:=⟨gb521,_,none⟩) (by first|exact Kd.own_blk (Kd.R_ne HO_11.out BK521.out (by decide))|(rw [add_block];exact Kd.own_blk (Kd.R_ne HO_11.out BK521.out (by decide)))|(show (Addr.add _ _).block≠_;rw [add_block];exact Kd.own_blk (Kd.R_ne HO_11.out BK521.out (by decide)))|(dsimp only;exact Kd.own_blk (Kd.R_ne HO_11.out BK521.out (by decide)))) _).trans (hHeld.2.2))))⟩ (fun hHeld=>?_);clear hK K;refine pu 15 (some 15) #[tt,tt,tt,tt,tt,tt,tt,tt,tt,tt,tt,tt,tt,tt,tt,tt] rfl rfl HT_ ?_;refine done_ (done_of HT_.out (by kernel_rfl)) ?_;have hcz32_0:w29.cell? ⟨gb521,0,none⟩=some (.int .i64 0):=(blk_cell BK521.out 0).trans rfl;have hcz32_1:w29.cell? ⟨gb521,1,none⟩=some (.int .i64 0):=(blk_cell BK521.out 1).trans rfl;have hfz32_0:=blk_frozen BK521.out 0;have hfz32_1:=blk_frozen BK521.out 1;(try go_wp2_with (first|((with_reducible refine gate_builtin (b:=.append) (xs:=#[.tmp 60,.tmp 62]) rfl ?_);(try (refine gate_guard (by rfl) ?_;dsimp only));at_builtin;refine Kd.R_append k26 (w0:=w) w.heap.size rfl (.tmp 60) (.tmp 62) 39 26 (.agg #[(.int .i64 0),(.int .i64 0)]) 16 rfl Try.underlying39 info26 rfl (by decide) (by omega) u12 x12_2 (⟨t518,t519⟩:S26) [.int .i64 t518,.int .i64 t519] (fun k_=>some k_≠(.slice (some ad516) t500.length co24:Value).ownBlock∧k_≠gb521) (fun _=>False) rfl (by first|(go_simp;done)|(go_simp;rfl)) ?aP (fun _ hk=>hk.elim) ?aF ?aO ?aB ?aS ?aL ?_;(case aP=>exact k26_mkM _ _ _ (⟨t518,t519⟩:S26));(case aB=>exact (zs HB.out));(case aF=>exact (fun k_ hk=>⟨Kd.fresh' (Kd.R_lt (by (with_reducible repeat (first|apply Kd.R_alloc|apply Kd.R_drewN|apply Kd.R_drew));exact (Kd.R_mono (Kd.R_far (p:=⟨gb521,1,none⟩) (Kd.R_far (p:=⟨gb521,0,none⟩) (Kd.R_mono HO_9.out (fun k_ hk=>(⟨hk,hk.2⟩:_∧k_≠gb521))) (fun _ hk=>hk.2) (.int .i64 t518)) (fun _ hk=>hk.2) (.int .i64 t519)) (fun _ h_=>h_.1)))) k_ hk,Kd.freshB (g:=gb521) (o:=.cells #[.int .i64 t518,.int .i64 t519] 26 (0,0)) (by (with_reducible repeat (first|refine blk_drewN ?_ _|refine blk_drew ?_|refine blk_alloc ?_ _));refine blk_put (cs:=#[.int .i64 t518,.int .i64 0]) ?_ 1 _ rfl;(with_reducible repeat (first|refine blk_drewN ?_ _|refine blk_drew ?_|refine blk_alloc ?_ _));refine blk_put (cs:=#[.int .i64 0,.int .i64 0]) ?_ 0 _ rfl;(with_reducible repeat (first|refine blk_drewN ?_ _|refine blk_drew ?_|refine blk_alloc ?_ _));exact BK521.out) k_ hk⟩));(case aO=>exact (by (with_reducible repeat (first|apply Kd.R_alloc|apply Kd.R_drewN|apply Kd.R_drew));exact Kd.R_mono (Kd.R_far (p:=⟨gb521,1,none⟩) (Kd.R_far (p:=⟨gb521,0,none⟩) (Kd.R_mono HO_12.out (fun k_ hk=>(⟨hk,hk.2⟩:_∧k_≠gb521))) (fun _ hk=>hk.2) (.int .i64 t518)) (fun _ hk=>hk.2) (.int .i64 t519)) (fun _ hk=>⟨hk.1.1,hk.1.2⟩)));(case aS=>exact (below_size (zs HB.out)));(case aL=>have:=LMc23.out;omega);intro v523 w33 ho hb hg hat;rw [← Ny522.out] at ho;replace HO_9:=aM (Kd.R_after (ok:=(fun k_=>k_≠gb521)) (by (with_reducible repeat (first|apply Kd.R_alloc|apply Kd.R_drewN|apply Kd.R_drew));exact Kd.R_mono (Kd.R_far (p:=⟨gb521,1,none⟩) (Kd.R_far (p:=⟨gb521,0,none⟩) (Kd.R_mono HO_9.out (fun k_ hk=>(⟨hk,hk.2⟩:_∧k_≠gb521))) (fun _ hk=>hk.2) (.int .i64 t518)) (fun _ hk=>hk.2) (.int .i64 t519)) (fun _ hk=>⟨hk.1.2,hk.1.1⟩)) hg hat);replace HO_11:=aM (Kd.R_over' (by (with_reducible repeat (first|apply Kd.R_alloc|apply Kd.R_drewN|apply Kd.R_drew));exact (Kd.R_mono (Kd.R_far (p:=⟨gb521,1,none⟩) (Kd.R_far (p:=⟨gb521,0,none⟩) (Kd.R_types HO_11.out BK521.out (by decide)) (fun _ hk=>hk.2) (.int .i64 t518)) (fun _ hk=>hk.2) (.int .i64 t519)) (fun _ h_=>h_.1))) (Kd.R_typed (by (with_reducible repeat (first|apply Kd.R_alloc|apply Kd.R_drewN|apply Kd.R_drew));exact (Kd.R_mono (Kd.R_far (p:=⟨gb521,1,none⟩) (Kd.R_far (p:=⟨gb521,0,none⟩) (Kd.R_mono HO_12.out (fun k_ hk=>(⟨hk,hk.2⟩:_∧k_≠gb521))) (fun _ hk=>hk.2) (.int .i64 t518)) (fun _ hk=>hk.2) (.int .i64 t519)) (fun _ h_=>h_.1)))) (by decide) hg);replace BK521:=aM (blk_grown (g:=gb521) (o:=.cells #[.int .i64 t518,.int .i64 t519] 26 (0,0)) (by (with_reducible repeat (first|refine blk_drewN ?_ _|refine blk_drew ?_|refine blk_alloc ?_ _));refine blk_put (cs:=#[.int .i64 t518,.int .i64 0]) ?_ 1 _ rfl;(with_reducible repeat (first|refine blk_drewN ?_ _|refine blk_drew ?_|refine blk_alloc ?_ _));refine blk_put (cs:=#[.int .i64 0,.int .i64 0]) ?_ 0 _ rfl;(with_reducible repeat (first|refine blk_drewN ?_ _|refine blk_drew ?_|refine blk_alloc ?_ _));exact BK521.out) hg (Kd.R_away HO_12.out (fun _ hk=>hk.2)));replace HB:=aM (hb);have HO524:=aM (ho);clear HO_12 ho hb hg hat)));go_roundg k2;(case measure=>have:=HJ5.out;have:=HK2.out;omega);(case rel=>exact ⟨(y522),(wrap64 (x13_2+1)),zt,H',⟨by have:=HJ5.out;have:=HK2.out;omega⟩,⟨by (with_reducible repeat (first|apply Kd.R_alloc|apply Kd.R_drewN|apply Kd.R_drew));exact Kd.R_mono HO_9.out (fun _ hk=>hk.2)⟩,⟨zr HO_11.out⟩,⟨by (with_reducible repeat (first|apply Kd.R_alloc|apply Kd.R_drewN|apply Kd.R_drew));exact Kd.R_mono HO524.out (fun _ hk=>hk.1)⟩,⟨zs HB.out⟩⟩)
        ·rw [if_neg c23] at H;exact absurd H (by simp)
       ·replace c22:=Bool.eq_false_iff.mpr c22;subst c22;replace H:=ifF H;obtain ⟨y525,hy525⟩:∃y_:List (S26),y_=(([]:List (S26))):=⟨_,rfl⟩;replace H:(some (y525,(([]:List (S26))),false))=some (r1,r2,r3):=(by first|(rw [hy525];with_reducible exact H)|(have H2_:=(Option.bind_some _ _).symm.trans H;rw [hy525];with_reducible exact H2_)|(have H2_:=(Option.bind_some _ _).symm.trans H;with_reducible exact H2_)|with_reducible exact H|(rw [hy525];exact H)|exact H);have Ny525:=aM hy525;clear hy525;obtain ⟨y528,hy528⟩:∃y_:List (S26),y_=(([]:List (S26))):=⟨_,rfl⟩;replace H:(some (y525,y528,false))=some (r1,r2,r3):=(by first|(rw [hy528];with_reducible exact H)|(have H2_:=(Option.bind_some _ _).symm.trans H;rw [hy528];with_reducible exact H2_)|(have H2_:=(Option.bind_some _ _).symm.trans H;with_reducible exact H2_)|with_reducible exact H|(rw [hy528];exact H)|exact H);have Ny528:=aM hy528;clear hy528;simp only [Option.some.injEq,Prod.mk.injEq] at H;obtain ⟨rfl,rfl,rfl⟩:=H;obtain ⟨Ao34,co34,eo34⟩:=Kd.R_slice HO_9.out;subst eo34;(try go_wp2);replace HO_9:=aM (Kd.R_drew HO_9.out);replace HO_11:=aM (Kd.R_drew HO_11.out);replace HO_12:=aM (Kd.R_drew HO_12.out);replace HB:=aM (below_drew1 HB.out);have p516:0≤(x13_2:Int):=zd;have q516:x13_2<(t500.length:Int):=zd;obtain ⟨ad516,e516,hx516_0,hx516_1⟩:=at_T26 (Kd.R_reads' HO_9.out).2.2 x13_2 p516 q516;cases e516;replace p516:=eq_true p516;replace q516:=eq_true q516;obtain ⟨Ao36,co36,eo36⟩:=Kd.R_slice HO_11.out;(first|subst eo36|(injection eo36 with f1_ f2_ f3_;have f4_:=f1_.symm;have f5_:=f3_.symm;clear f1_ f2_ f3_;subst f4_;subst f5_));have p517:0≤(x13_2:Int):=zd;have q517:x13_2<(t504.length:Int):=zd;obtain ⟨ad517,e517,hx517_0⟩:=Kd.at_int (Kd.R_reads' HO_11.out).2.2 x13_2 p517 q517;cases e517;replace p517:=eq_true p517;replace q517:=eq_true q517;refine start_ (n:=16) (S:=fun w'=>w'.cell? (ad516.add ((x13_2).toNat*2))=some (.int .i64 ((rd_T26 t500 x13_2).f0))∧w'.cell? ⟨(ad516.add ((x13_2).toNat*2)).block,(ad516.add ((x13_2).toNat*2)).off+1,none⟩=some (.int .i64 ((rd_T26 t500 x13_2).f1))∧w'.cell? (ad517.add (x13_2).toNat)=some (.int .i64 (rd t504 x13_2))) (ds:=[]) #[ff,ff,ff,ff,ff,ff,ff,ff,ff,ff,ff,ff,ff,ff,ff,ff] (by kernel_rfl) rfl rfl ⟨hx516_0,hx516_1,hx517_0⟩ (fun hHeld=>?_);refine with_tabW spec_TwoSolutions.tab9 spec_TwoSolutions.bits9 (fun HT_ HW_=>?_);generalize wr.drew=w35 at HO_9 HO_11 HO_12 HB hx516_0 hx516_1 hx517_0 hHeld ⊢;refine pu 0 (some 44) #[tt,ff,ff,ff,ff,ff,ff,ff,ff,ff,ff,ff,ff,ff,ff,ff] rfl rfl HT_ ?_;refine pu 1 (some 45) #[tt,tt,ff,ff,ff,ff,ff,ff,ff,ff,ff,ff,ff,ff,ff,ff] rfl rfl HT_ ?_;refine pu 2 (some 46) #[tt,tt,tt,ff,ff,ff,ff,ff,ff,ff,ff,ff,ff,ff,ff,ff] rfl rfl HT_ ?_;refine pu 4 (some 48) #[tt,tt,tt,ff,tt,ff,ff,ff,ff,ff,ff,ff,ff,ff,ff,ff] rfl rfl HT_ ?_;refine pu 5 (some 49) #[tt,tt,tt,ff,tt,tt,ff,ff,ff,ff,ff,ff,ff,ff,ff,ff] rfl rfl HT_ ?_;refine pu 6 (some 50) #[tt,tt,tt,ff,tt,tt,tt,ff,ff,ff,ff,ff,ff,ff,ff,ff] rfl rfl HT_ ?_;refine take_ (i:=3) (N:=some 47) (v:=?_) (a':=?_) #[tt,tt,tt,tt,tt,tt,tt,ff,ff,ff,ff,ff,ff,ff,ff,ff] rfl rfl (take_ofW HT_.out HW_.out (by kernel_rfl)) (fun _ _ _ h=>h) (Or.inl ⟨by rfl,?_⟩) hHeld ?_ ?_;rotate_left
        ·rintro w' ⟨s0,s1,s2⟩;go_simp;(with_reducible rfl)
        rotate_left
        ·simp only [Act.put,qa,qz,qs,i64_w,i32_w];rfl
        refine take_ (i:=7) (N:=some 51) (v:=?_) (a':=?_) #[tt,tt,tt,tt,tt,tt,tt,tt,ff,ff,ff,ff,ff,ff,ff,ff] rfl rfl (take_ofW HT_.out HW_.out (by kernel_rfl)) (fun _ _ _ h=>h) (Or.inl ⟨by rfl,?_⟩) hHeld ?_ ?_;rotate_left
        ·rintro w' ⟨s0,s1,s2⟩;go_simp;(with_reducible rfl)
        rotate_left
        ·simp only [Act.put,qa,qz,qs,i64_w,i32_w];rfl
        refine pu 8 (some 52) #[tt,tt,tt,tt,tt,tt,tt,tt,tt,ff,ff,ff,ff,ff,ff,ff] rfl rfl HT_ ?_;refine join_ (σ:=Nat) 2 #[tt,tt,tt,tt,tt,tt,tt,tt,tt,tt,tt,tt,tt,tt,ff,ff] (fun s_=>[(53,.tuple #[.agg #[.int .i64 t518,.int .i64 t519],.bool false]),(14,.pointer (some ⟨s_,0,none⟩)),(43,.tuple #[.agg #[.int .i64 t518,.int .i64 t519],.bool false]),(54,.agg #[.int .i64 t518,.int .i64 t519]),(55,.bool false)]) (fun s_ w'=>(w'.cell? (ad516.add ((x13_2).toNat*2))=some (.int .i64 ((rd_T26 t500 x13_2).f0))∧w'.cell? ⟨(ad516.add ((x13_2).toNat*2)).block,(ad516.add ((x13_2).toNat*2)).off+1,none⟩=some (.int .i64 ((rd_T26 t500 x13_2).f1))∧w'.cell? (ad517.add (x13_2).toNat)=some (.int .i64 (rd t504 x13_2)))∧(Kd.R (Kd.int .i64) 3 w' w.heap.size (fun _=>True) (.slice (some ad517) t504.length co36) t504)∧(Kd.R k26 26 w' w.heap.size (fun k_=>some k_≠(.slice (some ad516) t500.length co34:Value).ownBlock∧k_≠s_) u12 x12_2)∧(Kd.R k26 26 w' w.heap.size (fun k_=>some k_≠(u12:Value).ownBlock∧k_≠s_) (.slice (some ad516) t500.length co34) t500)∧(w'.heap[s_]?=some (.cells #[.int .i64 0,.int .i64 0] 26 (0,0)))∧(w.heap.size≤s_)∧(w.heap.size≤s_)∧(Below w.heap.size w w')) ?_ ?_;rotate_left
        ·intro hCont;refine two_ (i:=9) (j:=13) (Ni:=some 53) (Nj:=some 14) #[tt,tt,tt,tt,tt,tt,tt,tt,tt,tt,ff,ff,ff,ff,ff,ff] #[tt,tt,tt,tt,tt,tt,tt,tt,tt,ff,ff,ff,ff,tt,ff,ff] rfl rfl rfl rfl (two_of HT_.out (by kernel_rfl)) (by decide) (by decide) (fun K hK=>?_) (fun K hK=>?_)
         ·skip
          refine gs Try.func79 #[.agg #[.int .i64 ((rd_T26 t500 x13_2).f0),.int .i64 ((rd_T26 t500 x13_2).f1)],.agg #[.int .i64 (rd t504 x13_2),.int .i64 1]] ?_;(with_reducible refine (spec_AddRatios.calls k2 ((rd_T26 t500 x13_2).f0) ((rd_T26 t500 x13_2).f1) (rd t504 x13_2) 1 t518 t519 false _ A21.out).mono ?_);rintro e w37 ⟨rfl,hb⟩;have HS0_:=(hb.cell (World.block_lt_of_cell? _ _ (hHeld.1))).trans (hHeld.1);have HS1_:=(hb.cell (World.block_lt_of_cell? _ _ (hHeld.2.1))).trans (hHeld.2.1);have HS2_:=(hb.cell (World.block_lt_of_cell? _ _ (hHeld.2.2))).trans (hHeld.2.2);refine ⟨_,rfl,?_⟩;replace HO_9:=aM (Kd.R_below (zr HO_9.out) hb);replace HO_11:=aM (Kd.R_below (zr HO_11.out) hb);replace HO_12:=aM (Kd.R_below (zr HO_12.out) hb);replace HB:=aM (below_step (zb HB.out) hb);(try clear hb);(try clear hb2);(try clear hk);(try clear hi);refine hK.out _ _ ⟨HS0_,HS1_,HS2_⟩ (fun hHeld=>?_);clear hK K;refine norm_ (a':=?_) ?_ ?_;rotate_left
          ·show Act.put _ (some 53) _=_;simp only [Act.put,qa,qz,qs,i64_w,i32_w];rfl
          refine pu 10 (some 43) #[tt,tt,tt,tt,tt,tt,tt,tt,tt,tt,tt,ff,ff,ff,ff,ff] rfl rfl HT_ ?_;refine pu 11 (some 54) #[tt,tt,tt,tt,tt,tt,tt,tt,tt,tt,tt,tt,ff,ff,ff,ff] rfl rfl HT_ ?_;refine pu 12 (some 55) #[tt,tt,tt,tt,tt,tt,tt,tt,tt,tt,tt,tt,tt,ff,ff,ff] rfl rfl HT_ ?_;refine one_ (i:=13) (N:=some 14) #[tt,tt,tt,tt,tt,tt,tt,tt,tt,tt,tt,tt,tt,tt,ff,ff] rfl rfl (one_of HT_.out (by kernel_rfl)) (by decide) (fun K hK=>?_);refine box_step ?hg (N:=14) ?hd (cs:=#[.int .i64 0,.int .i64 0]) (t:=26) ?hr ?_;(case hd=>rfl);(case hg=>rfl);(case hr=>first|(go_simp;done)|(go_simp;rfl));intro gb521 hg w38 hbox hb;have HS0_:=(hb.cell (World.block_lt_of_cell? _ _ (hHeld.1))).trans (hHeld.1);have HS1_:=(hb.cell (World.block_lt_of_cell? _ _ (hHeld.2.1))).trans (hHeld.2.1);have HS2_:=(hb.cell (World.block_lt_of_cell? _ _ (hHeld.2.2))).trans (hHeld.2.2);replace HO_9:=aM (Kd.R_below (Kd.R_elderB (zr HO_9.out) gb521 (Nat.le_of_eq hg.symm)) hb);replace HO_11:=aM (Kd.R_below (zr HO_11.out) hb);replace HO_12:=aM (Kd.R_below (Kd.R_elderB (zr HO_12.out) gb521 (Nat.le_of_eq hg.symm)) hb);have BK521:=aM (hbox);have GW521:=aM (zg hg (zb HB.out));have GE521:=aM (zg hg (zb HB.out));replace HB:=aM (below_step (zb HB.out) hb);clear hb hbox hg;refine hK.out _ _ ⟨HS0_,HS1_,HS2_⟩ (fun hHeld=>?_);clear hK K;refine norm_ (a':=?_) ?_ ?_;rotate_left
          ·show Act.put _ (some 14) _=_;simp only [Act.put,qa,qz,qs,i64_w,i32_w];rfl
          exact norm_ (by simp only [putAll,Act.put,qa,qz,qs]) (hCont (gb521) _ ⟨hHeld,(zr HO_11.out),(zr HO_12.out),(zr HO_9.out),(zk BK521.out),GW521.out,GE521.out,(zs HB.out)⟩)
         ·skip
          refine box_step ?hg (N:=14) ?hd (cs:=#[.int .i64 0,.int .i64 0]) (t:=26) ?hr ?_;(case hd=>rfl);(case hg=>rfl);(case hr=>first|(go_simp;done)|(go_simp;rfl));intro gb521 hg w37 hbox hb;have HS0_:=(hb.cell (World.block_lt_of_cell? _ _ (hHeld.1))).trans (hHeld.1);have HS1_:=(hb.cell (World.block_lt_of_cell? _ _ (hHeld.2.1))).trans (hHeld.2.1);have HS2_:=(hb.cell (World.block_lt_of_cell? _ _ (hHeld.2.2))).trans (hHeld.2.2);replace HO_9:=aM (Kd.R_below (Kd.R_elderB (zr HO_9.out) gb521 (Nat.le_of_eq hg.symm)) hb);replace HO_11:=aM (Kd.R_below (zr HO_11.out) hb);replace HO_12:=aM (Kd.R_below (Kd.R_elderB (zr HO_12.out) gb521 (Nat.le_of_eq hg.symm)) hb);have BK521:=aM (hbox);have GW521:=aM (zg hg (zb HB.out));have GE521:=aM (zg hg (zb HB.out));replace HB:=aM (below_step (zb HB.out) hb);clear hb hbox hg;refine hK.out _ _ ⟨HS0_,HS1_,HS2_⟩ (fun hHeld=>?_);clear hK K;refine norm_ (a':=?_) ?_ ?_;rotate_left
          ·show Act.put _ (some 14) _=_;simp only [Act.put,qa,qz,qs,i64_w,i32_w];rfl
          refine one_ (i:=9) (N:=some 53) #[tt,tt,tt,tt,tt,tt,tt,tt,tt,tt,ff,ff,ff,tt,ff,ff] rfl rfl (one_of HT_.out (by kernel_rfl)) (by decide) (fun K hK=>?_);refine gs Try.func79 #[.agg #[.int .i64 ((rd_T26 t500 x13_2).f0),.int .i64 ((rd_T26 t500 x13_2).f1)],.agg #[.int .i64 (rd t504 x13_2),.int .i64 1]] ?_;(with_reducible refine (spec_AddRatios.calls k2 ((rd_T26 t500 x13_2).f0) ((rd_T26 t500 x13_2).f1) (rd t504 x13_2) 1 t518 t519 false _ A21.out).mono ?_);rintro e w38 ⟨rfl,hb⟩;have HS0_:=(hb.cell (World.block_lt_of_cell? _ _ (hHeld.1))).trans (hHeld.1);have HS1_:=(hb.cell (World.block_lt_of_cell? _ _ (hHeld.2.1))).trans (hHeld.2.1);have HS2_:=(hb.cell (World.block_lt_of_cell? _ _ (hHeld.2.2))).trans (hHeld.2.2);refine ⟨_,rfl,?_⟩;replace HO_9:=aM (Kd.R_below (zr HO_9.out) hb);replace HO_11:=aM (Kd.R_below (zr HO_11.out) hb);replace HO_12:=aM (Kd.R_below (zr HO_12.out) hb);replace BK521:=aM (blk_below (g:=gb521) (o:=.cells #[.int .i64 0,.int .i64 0] 26 (0,0)) (zk BK521.out) hb);replace HB:=aM (below_step (zs HB.out) hb);(try clear hb);(try clear hb2);(try clear hk);(try clear hi);refine hK.out _ _ ⟨HS0_,HS1_,HS2_⟩ (fun hHeld=>?_);clear hK K;refine norm_ (a':=?_) ?_ ?_;rotate_left
          ·show Act.put _ (some 53) _=_;simp only [Act.put,qa,qz,qs,i64_w,i32_w];rfl
          refine pu 10 (some 43) #[tt,tt,tt,tt,tt,tt,tt,tt,tt,tt,tt,ff,ff,tt,ff,ff] rfl rfl HT_ ?_;refine pu 11 (some 54) #[tt,tt,tt,tt,tt,tt,tt,tt,tt,tt,tt,tt,ff,tt,ff,ff] rfl rfl HT_ ?_;refine pu 12 (some 55) #[tt,tt,tt,tt,tt,tt,tt,tt,tt,tt,tt,tt,tt,tt,ff,ff] rfl rfl HT_ ?_;exact norm_ (by simp only [putAll,Act.put,qa,qz,qs]) (hCont (gb521) _ ⟨hHeld,(zr HO_11.out),(zr HO_12.out),(zr HO_9.out),(zk BK521.out),GW521.out,GE521.out,(zs HB.out)⟩)
        rintro gb521 w39 ⟨hS_,h0_,h1_,h2_,h3_,h4_,h5_,h6_⟩;replace HO_11:Aside0 (Kd.R (Kd.int .i64) 3 w39 w.heap.size (fun _=>True) (.slice (some ad517) t504.length co36) t504):=⟨h0_⟩;replace HO_12:Aside0 (Kd.R k26 26 w39 w.heap.size (fun k_=>some k_≠(.slice (some ad516) t500.length co34:Value).ownBlock∧k_≠gb521) u12 x12_2):=⟨h1_⟩;replace HO_9:Aside0 (Kd.R k26 26 w39 w.heap.size (fun k_=>some k_≠(u12:Value).ownBlock∧k_≠gb521) (.slice (some ad516) t500.length co34) t500):=⟨h2_⟩;have BK521:Aside0 (w39.heap[gb521]?=some (.cells #[.int .i64 0,.int .i64 0] 26 (0,0))):=⟨h3_⟩;have GW521:Aside0 (w.heap.size≤gb521):=⟨h4_⟩;have GE521:Aside0 (w.heap.size≤gb521):=⟨h5_⟩;replace HB:Aside0 (Below w.heap.size w w39):=⟨h6_⟩;clear h0_ h1_ h2_ h3_ h4_ h5_ h6_;have hHeld:w39.cell? (ad516.add ((x13_2).toNat*2))=some (.int .i64 ((rd_T26 t500 x13_2).f0))∧w39.cell? ⟨(ad516.add ((x13_2).toNat*2)).block,(ad516.add ((x13_2).toNat*2)).off+1,none⟩=some (.int .i64 ((rd_T26 t500 x13_2).f1))∧w39.cell? (ad517.add (x13_2).toNat)=some (.int .i64 (rd t504 x13_2)):=hS_;refine norm_ (a':=?_) ?_ ?_;rotate_left
        ·simp only [putAll,Act.put,qa,qz,qs];rfl
        refine one_ (i:=14) (N:=none) #[tt,tt,tt,tt,tt,tt,tt,tt,tt,tt,tt,tt,tt,tt,tt,ff] rfl rfl (one_of HT_.out (by kernel_rfl)) (by decide) (fun K hK=>?_);have hs40:w39.cell? ⟨gb521,0,none⟩=some (.int .i64 0):=(blk_cell BK521.out 0).trans rfl;have hfs40:=blk_frozen BK521.out 0;have hs41:w39.cell? ⟨gb521,1,none⟩=some (.int .i64 0):=(blk_cell BK521.out 1).trans rfl;have hfs41:=blk_frozen BK521.out 1;refine skip_ (w1:=?_) (by rfl) rfl ?_ ?_;rotate_left
        ·go_simp;rfl
        refine hK.out _ _ ⟨((cell_far (p:=⟨gb521,_,none⟩) (by first|exact Kd.own_blk (Kd.R_away HO_9.out (fun _ hk=>hk.2))|(rw [add_block];exact Kd.own_blk (Kd.R_away HO_9.out (fun _ hk=>hk.2)))|(show (Addr.add _ _).block≠_;rw [add_block];exact Kd.own_blk (Kd.R_away HO_9.out (fun _ hk=>hk.2)))|(dsimp only;exact Kd.own_blk (Kd.R_away HO_9.out (fun _ hk=>hk.2)))) _).trans (((cell_far (p:=⟨gb521,_,none⟩) (by first|exact Kd.own_blk (Kd.R_away HO_9.out (fun _ hk=>hk.2))|(rw [add_block];exact Kd.own_blk (Kd.R_away HO_9.out (fun _ hk=>hk.2)))|(show (Addr.add _ _).block≠_;rw [add_block];exact Kd.own_blk (Kd.R_away HO_9.out (fun _ hk=>hk.2)))|(dsimp only;exact Kd.own_blk (Kd.R_away HO_9.out (fun _ hk=>hk.2)))) _).trans (hHeld.1)))),((cell_far (p:=⟨gb521,_,none⟩) (by first|exact Kd.own_blk (Kd.R_away HO_9.out (fun _ hk=>hk.2))|(rw [add_block];exact Kd.own_blk (Kd.R_away HO_9.out (fun _ hk=>hk.2)))|(show (Addr.add _ _).block≠_;rw [add_block];exact Kd.own_blk (Kd.R_away HO_9.out (fun _ hk=>hk.2)))|(dsimp only;exact Kd.own_blk (Kd.R_away HO_9.out (fun _ hk=>hk.2)))) _).trans (((cell_far (p:=⟨gb521,_,none⟩) (by first|exact Kd.own_blk (Kd.R_away HO_9.out (fun _ hk=>hk.2))|(rw [add_block];exact Kd.own_blk (Kd.R_away HO_9.out (fun _ hk=>hk.2)))|(show (Addr.add _ _).block≠_;rw [add_block];exact Kd.own_blk (Kd.R_away HO_9.out (fun _ hk=>hk.2)))|(dsimp only;exact Kd.own_blk (Kd.R_away HO_9.out (fun _ hk=>hk.2)))) _).trans (hHeld.2.1)))),((cell_far (p:=⟨gb521,_,none⟩) (by first|exact Kd.own_blk (Kd.R_ne HO_11.out BK521.out (by decide))|(rw [add_block];exact Kd.own_blk (Kd.R_ne HO_11.out BK521.out (by decide)))|(show (Addr.add _ _).block≠_;rw [add_block];exact Kd.own_blk (Kd.R_ne HO_11.out BK521.out (by decide)))|(dsimp only;exact Kd.own_blk (Kd.R_ne HO_11.out BK521.out (by decide)))) _).trans (((cell_far (p:=⟨gb521,_,none⟩) (by first|exact Kd.own_blk (Kd.R_ne HO_11.out BK521.out (by decide))|(rw [add_block];exact Kd.own_blk (Kd.R_ne HO_11.out BK521.out (by decide)))|(show (Addr.add _ _).block≠_;rw [add_block];exact Kd.own_blk (Kd.R_ne HO_11.out BK521.out (by decide)))|(dsimp only;exact Kd.own_blk (Kd.R_ne HO_11.out BK521.out (by decide)))) _).trans (hHeld.2.2))))⟩ (fun hHeld=>?_);clear hK K;refine pu 15 (some 15) #[tt,tt,tt,tt,tt,tt,tt,tt,tt,tt,tt,tt,tt,tt,tt,tt] rfl rfl HT_ ?_;refine done_ (done_of HT_.out (by kernel_rfl)) ?_;(try go_wp2_with (first|((with_reducible refine gate_dst (N:=58) rfl ?_);(try (refine gate_guard (by rfl) ?_;dsimp only));refine Kd.R_lit k26 _ 26 ?hg (N:=58) ?hd (xs:=([]:List (S26))) (inner:=[]) (ok:=fun _=>True) (okp:=fun _=>True) ?hr ?hp (fun _ hk=>hk) trivial (Below.refl _ _) (Nat.le_refl _) (by simp) ?_;(case hd=>rfl);(case hg=>rfl);(case hr=>first|(go_simp;done)|(go_simp;rfl));(case hp=>exact (Reps.none _ _));intro v526 w42 ho43 hb hg_ hnew_;clear hg_ hnew_;(first|rw [← Ny525.out] at ho43|(simp only [Int.reduceToNat] at ho43;rw [← Ny525.out] at ho43));replace HO_11:=aM (Kd.R_below (by (with_reducible repeat (first|apply Kd.R_alloc|apply Kd.R_drewN|apply Kd.R_drew));exact (Kd.R_mono (Kd.R_far (p:=⟨gb521,1,none⟩) (Kd.R_far (p:=⟨gb521,0,none⟩) (Kd.R_types HO_11.out BK521.out (by decide)) (fun _ hk=>hk.2) (.int .i64 t518)) (fun _ hk=>hk.2) (.int .i64 t519)) (fun _ h_=>h_.1))) hb);have HO527:=aM (Kd.R_lower (Kd.R_newB (Kd.R_new' (Kd.R_new' ho43 (Kd.R_lt (by (with_reducible repeat (first|apply Kd.R_alloc|apply Kd.R_drewN|apply Kd.R_drew));exact (Kd.R_mono (Kd.R_far (p:=⟨gb521,1,none⟩) (Kd.R_far (p:=⟨gb521,0,none⟩) (Kd.R_mono HO_9.out (fun k_ hk=>(⟨hk,hk.2⟩:_∧k_≠gb521))) (fun _ hk=>hk.2) (.int .i64 t518)) (fun _ hk=>hk.2) (.int .i64 t519)) (fun _ h_=>h_.1))))) (Kd.R_lt (by (with_reducible repeat (first|apply Kd.R_alloc|apply Kd.R_drewN|apply Kd.R_drew));exact (Kd.R_mono (Kd.R_far (p:=⟨gb521,1,none⟩) (Kd.R_far (p:=⟨gb521,0,none⟩) (Kd.R_mono HO_12.out (fun k_ hk=>(⟨hk,hk.2⟩:_∧k_≠gb521))) (fun _ hk=>hk.2) (.int .i64 t518)) (fun _ hk=>hk.2) (.int .i64 t519)) (fun _ h_=>h_.1))))) (g:=gb521) (o:=.cells #[.int .i64 t518,.int .i64 t519] 26 (0,0)) (by (with_reducible repeat (first|refine blk_drewN ?_ _|refine blk_drew ?_|refine blk_alloc ?_ _));refine blk_put (cs:=#[.int .i64 t518,.int .i64 0]) ?_ 1 _ rfl;(with_reducible repeat (first|refine blk_drewN ?_ _|refine blk_drew ?_|refine blk_alloc ?_ _));refine blk_put (cs:=#[.int .i64 0,.int .i64 0]) ?_ 0 _ rfl;(with_reducible repeat (first|refine blk_drewN ?_ _|refine blk_drew ?_|refine blk_alloc ?_ _));exact BK521.out)) (below_size (zs HB.out)));replace HO_9:=aM (Kd.R_elder' (by (with_reducible repeat (first|apply Kd.R_alloc|apply Kd.R_drewN|apply Kd.R_drew));exact (Kd.R_mono (Kd.R_far (p:=⟨gb521,1,none⟩) (Kd.R_far (p:=⟨gb521,0,none⟩) (Kd.R_mono HO_9.out (fun k_ hk=>(⟨hk,hk.2⟩:_∧k_≠gb521))) (fun _ hk=>hk.2) (.int .i64 t518)) (fun _ hk=>hk.2) (.int .i64 t519)) (fun _ h_=>h_.1))) (Kd.R_base ho43) hb);replace HO_12:=aM (Kd.R_elder' (by (with_reducible repeat (first|apply Kd.R_alloc|apply Kd.R_drewN|apply Kd.R_drew));exact (Kd.R_mono (Kd.R_far (p:=⟨gb521,1,none⟩) (Kd.R_far (p:=⟨gb521,0,none⟩) (Kd.R_mono HO_12.out (fun k_ hk=>(⟨hk,hk.2⟩:_∧k_≠gb521))) (fun _ hk=>hk.2) (.int .i64 t518)) (fun _ hk=>hk.2) (.int .i64 t519)) (fun _ h_=>h_.1))) (Kd.R_base ho43) hb);replace BK521:=aM (blk_below (g:=gb521) (o:=.cells #[.int .i64 t518,.int .i64 t519] 26 (0,0)) (by (with_reducible repeat (first|refine blk_drewN ?_ _|refine blk_drew ?_|refine blk_alloc ?_ _));refine blk_put (cs:=#[.int .i64 t518,.int .i64 0]) ?_ 1 _ rfl;(with_reducible repeat (first|refine blk_drewN ?_ _|refine blk_drew ?_|refine blk_alloc ?_ _));refine blk_put (cs:=#[.int .i64 0,.int .i64 0]) ?_ 0 _ rfl;(with_reducible repeat (first|refine blk_drewN ?_ _|refine blk_drew ?_|refine blk_alloc ?_ _));exact BK521.out) hb);replace HB:=aM (below_step (zs HB.out) hb);clear hb ho43)|((with_reducible refine gate_dst (N:=59) rfl ?_);(try (refine gate_guard (by rfl) ?_;dsimp only));refine Kd.R_lit k26 _ 26 ?hg (N:=59) ?hd (xs:=([]:List (S26))) (inner:=[]) (ok:=fun _=>True) (okp:=fun _=>True) ?hr ?hp (fun _ hk=>hk) trivial (Below.refl _ _) (Nat.le_refl _) (by simp) ?_;(case hd=>rfl);(case hg=>rfl);(case hr=>first|(go_simp;done)|(go_simp;rfl));(case hp=>exact (Reps.none _ _));intro v529 w44 ho45 hb hg_ hnew_;clear hg_ hnew_;(first|rw [← Ny528.out] at ho45|(simp only [Int.reduceToNat] at ho45;rw [← Ny528.out] at ho45));replace HO_11:=aM (Kd.R_below (zr HO_11.out) hb);have HO530:=aM (Kd.R_lower (Kd.R_newB (Kd.R_new' (Kd.R_new' (Kd.R_new' ho45 (Kd.R_lt (zr HO_9.out))) (Kd.R_lt (zr HO_12.out))) (Kd.R_lt (zr HO527.out))) (g:=gb521) (o:=.cells #[.int .i64 t518,.int .i64 t519] 26 (0,0)) (zk BK521.out)) (below_size (zs HB.out)));replace HO_9:=aM (Kd.R_elder' (zr HO_9.out) (Kd.R_base ho45) hb);replace HO_12:=aM (Kd.R_elder' (zr HO_12.out) (Kd.R_base ho45) hb);replace HO527:=aM (Kd.R_elder' (zr HO527.out) (Kd.R_base ho45) hb);replace BK521:=aM (blk_below (g:=gb521) (o:=.cells #[.int .i64 t518,.int .i64 t519] 26 (0,0)) (zk BK521.out) hb);replace HB:=aM (below_step (zs HB.out) hb);clear hb ho45)));go_ret3;exact ⟨_,_,by first|rfl|(simp [errW_none,errW_some]<;>rfl)|(simp [*,errW_none,errW_some]<;>rfl),by (with_reducible repeat (first|apply Kd.R_alloc|apply Kd.R_drewN|apply Kd.R_drew));exact Kd.R_mono HO527.out (fun _ hk=>hk.2),by (with_reducible repeat (first|apply Kd.R_alloc|apply Kd.R_drewN|apply Kd.R_drew));exact Kd.R_mono HO530.out (fun _ hk=>hk.1.2),zs HB.out⟩
      ·rw [if_neg c18] at H;have c18b0:decide (x13_2<(t500.length:Int))=false:=decide_eq_false c18;clear c18;simp only [Option.some.injEq,Prod.mk.injEq] at H;obtain ⟨rfl,rfl,rfl⟩:=H;obtain ⟨Ao46,co46,eo46⟩:=Kd.R_slice HO_9.out;subst eo46;go_wp2;go_ret3;exact ⟨_,_,by first|rfl|(simp [errW_none,errW_some]<;>rfl)|(simp [*,errW_none,errW_some]<;>rfl),zr HO_9.out,zr HO_12.out,zb HB.out⟩
end Go.Proofs.Ytojkepidkmkmpaa.PFnExactTwoSolutions
end
section
namespace Go.Proofs.Ytojkepidkmkmpaa.PFnExactTwoSolutions
open Go.Proofs.YtojkepidkmkmpaaW.PrintWords.Aside0 renaming mk → aM
open List renaming setIfInBounds_toArray → qa, set_cons_zero → qz, set_cons_succ → qs
open Bool renaming true → tt, false → ff
open Option renaming bind_eq_some_iff → bE

open Go.RowKit Go.Proofs.YtojkepidkmkmpaaW.PrintWords Go.Proofs.YtojkepidkmkmpaaW.PrintLast Go.Proofs.YtojkepidkmkmpaaW.PrintMore
attribute [local go_sem] max2_int min2_int max_two min_two max_three min_three max_four min_four
set_option linter.unusedVariables false
set_option linter.unusedSimpArgs false
def laws_eqRatio.f (a0_0 : Int) (a0_1 : Int) (a1_0 : Int) (a1_1 : Int) : Option (Bool) := if a0_0 = a1_0 then (if a0_1 = a1_1 then (some true) else (some false)) else (some false)
set_option maxHeartbeats 8000000 in
set_option maxRecDepth 100000 in
theorem laws_eqRatio.calls (a0_0 : Int) (a0_1 : Int) (a1_0 : Int) (a1_1 : Int) (r : Bool) (w : World) (h : laws_eqRatio.f a0_0 a0_1 a1_0 a1_1 = some r) :
 Calls Try.prog 20 #[.agg #[.int .i64 a0_0, .int .i64 a0_1], .agg #[.int .i64 a1_0, .int .i64 a1_1]] w fun e w' => e = .returned (.bool r) ∧ Below w.heap.size w w' := by
 have hu26:=Try.underlying26;have HB:=aM (Below.refl w.heap.size w);have H:(if a0_0=a1_0 then (if a0_1=a1_1 then (some true) else (some false)) else (some false))=some r:=h;clear h;by_cases c3:a0_0=a1_0
 ·rw [if_pos c3] at H;have c3b0:(a0_0 == a1_0)=true:=beq_iff_eq.mpr c3;have c3b1:(a0_0 != a1_0)=false:=bne_eq_false_iff_eq.mpr c3;clear c3;by_cases c4:a0_1=a1_1
  ·rw [if_pos c4] at H;have c4b0:(a0_1 == a1_1)=true:=beq_iff_eq.mpr c4;have c4b1:(a0_1 != a1_1)=false:=bne_eq_false_iff_eq.mpr c4;clear c4;obtain rfl:=Option.some.inj H;go_enter Try.func20,Try.ntmps20;go_wp2_with (first|((with_reducible refine gate_dst (N:=2) rfl ?_);refine box_event ?hg (N:=2) ?hd (cs:=#[.int .i64 a0_0,.int .i64 a0_1]) (t:=26) ?hr ?_;(case hd=>rfl);(case hg=>rfl);(case hr=>first|(go_simp;done)|(go_simp;rfl));intro gb531 hg w5 hbox hb;have BK531:=aM (hbox);have GW531:=aM (zg hg (zb HB.out));have GE531:=aM (zg hg (zb HB.out));replace HB:=aM (below_step (zb HB.out) hb);clear hb hbox hg)|((with_reducible refine gate_dst (N:=3) rfl ?_);refine box_event ?hg (N:=3) ?hd (cs:=#[.int .i64 a1_0,.int .i64 a1_1]) (t:=26) ?hr ?_;(case hd=>rfl);(case hg=>rfl);(case hr=>first|(go_simp;done)|(go_simp;rfl));intro gb532 hg w6 hbox hb;have BK532:=aM (hbox);have GW532:=aM (zg hg (zs HB.out));have GE532:=aM (zg hg (zs HB.out));replace HB:=aM (below_step (zs HB.out) hb);have NB531_532:=aM (zl hg (zk BK531.out));have NB532_531:=aM (zm hg (zk BK531.out));replace BK531:=aM (blk_below (g:=gb531) (o:=.cells #[.int .i64 a0_0,.int .i64 a0_1] 26 (0,0)) (zk BK531.out) hb);clear hb hbox hg;have hnb7:=NB531_532.out;have hnc7:=NB532_531.out;have hcz8_0:w6.cell? ⟨gb531,0,none⟩=some (.int .i64 a0_0):=(blk_cell BK531.out 0).trans rfl;have hcz8_1:w6.cell? ⟨gb531,1,none⟩=some (.int .i64 a0_1):=(blk_cell BK531.out 1).trans rfl;have hfz8_0:=blk_frozen BK531.out 0;have hfz8_1:=blk_frozen BK531.out 1;have hcz9_0:w6.cell? ⟨gb532,0,none⟩=some (.int .i64 a1_0):=(blk_cell BK532.out 0).trans rfl;have hcz9_1:w6.cell? ⟨gb532,1,none⟩=some (.int .i64 a1_1):=(blk_cell BK532.out 1).trans rfl;have hfz9_0:=blk_frozen BK532.out 0;have hfz9_1:=blk_frozen BK532.out 1));go_ret;exact ⟨by first|rfl|(simp [errW_none,errW_some]<;>rfl)|(simp [*,errW_none,errW_some]<;>rfl),zs HB.out⟩
  ·rw [if_neg c4] at H;have c4b0:(a0_1 == a1_1)=false:=beq_eq_false_iff_ne.mpr c4;have c4b1:(a0_1 != a1_1)=true:=bne_iff_ne.mpr c4;obtain rfl:=Option.some.inj H;go_enter Try.func20,Try.ntmps20;go_wp2_with (first|((with_reducible refine gate_dst (N:=2) rfl ?_);refine box_event ?hg (N:=2) ?hd (cs:=#[.int .i64 a0_0,.int .i64 a0_1]) (t:=26) ?hr ?_;(case hd=>rfl);(case hg=>rfl);(case hr=>first|(go_simp;done)|(go_simp;rfl));intro gb531 hg w10 hbox hb;have BK531:=aM (hbox);have GW531:=aM (zg hg (zb HB.out));have GE531:=aM (zg hg (zb HB.out));replace HB:=aM (below_step (zb HB.out) hb);clear hb hbox hg)|((with_reducible refine gate_dst (N:=3) rfl ?_);refine box_event ?hg (N:=3) ?hd (cs:=#[.int .i64 a1_0,.int .i64 a1_1]) (t:=26) ?hr ?_;(case hd=>rfl);(case hg=>rfl);(case hr=>first|(go_simp;done)|(go_simp;rfl));intro gb532 hg w11 hbox hb;have BK532:=aM (hbox);have GW532:=aM (zg hg (zs HB.out));have GE532:=aM (zg hg (zs HB.out));replace HB:=aM (below_step (zs HB.out) hb);have NB531_532:=aM (zl hg (zk BK531.out));have NB532_531:=aM (zm hg (zk BK531.out));replace BK531:=aM (blk_below (g:=gb531) (o:=.cells #[.int .i64 a0_0,.int .i64 a0_1] 26 (0,0)) (zk BK531.out) hb);clear hb hbox hg;have hnb12:=NB531_532.out;have hnc12:=NB532_531.out;have hcz13_0:w11.cell? ⟨gb531,0,none⟩=some (.int .i64 a0_0):=(blk_cell BK531.out 0).trans rfl;have hcz13_1:w11.cell? ⟨gb531,1,none⟩=some (.int .i64 a0_1):=(blk_cell BK531.out 1).trans rfl;have hfz13_0:=blk_frozen BK531.out 0;have hfz13_1:=blk_frozen BK531.out 1;have hcz14_0:w11.cell? ⟨gb532,0,none⟩=some (.int .i64 a1_0):=(blk_cell BK532.out 0).trans rfl;have hcz14_1:w11.cell? ⟨gb532,1,none⟩=some (.int .i64 a1_1):=(blk_cell BK532.out 1).trans rfl;have hfz14_0:=blk_frozen BK532.out 0;have hfz14_1:=blk_frozen BK532.out 1));go_ret;exact ⟨by first|rfl|(simp [errW_none,errW_some]<;>rfl)|(simp [*,errW_none,errW_some]<;>rfl),zs HB.out⟩
 ·rw [if_neg c3] at H;have c3b0:(a0_0 == a1_0)=false:=beq_eq_false_iff_ne.mpr c3;have c3b1:(a0_0 != a1_0)=true:=bne_iff_ne.mpr c3;obtain rfl:=Option.some.inj H;go_enter Try.func20,Try.ntmps20;go_wp2_with (first|((with_reducible refine gate_dst (N:=2) rfl ?_);refine box_event ?hg (N:=2) ?hd (cs:=#[.int .i64 a0_0,.int .i64 a0_1]) (t:=26) ?hr ?_;(case hd=>rfl);(case hg=>rfl);(case hr=>first|(go_simp;done)|(go_simp;rfl));intro gb531 hg w15 hbox hb;have BK531:=aM (hbox);have GW531:=aM (zg hg (zb HB.out));have GE531:=aM (zg hg (zb HB.out));replace HB:=aM (below_step (zb HB.out) hb);clear hb hbox hg)|((with_reducible refine gate_dst (N:=3) rfl ?_);refine box_event ?hg (N:=3) ?hd (cs:=#[.int .i64 a1_0,.int .i64 a1_1]) (t:=26) ?hr ?_;(case hd=>rfl);(case hg=>rfl);(case hr=>first|(go_simp;done)|(go_simp;rfl));intro gb532 hg w16 hbox hb;have BK532:=aM (hbox);have GW532:=aM (zg hg (zs HB.out));have GE532:=aM (zg hg (zs HB.out));replace HB:=aM (below_step (zs HB.out) hb);have NB531_532:=aM (zl hg (zk BK531.out));have NB532_531:=aM (zm hg (zk BK531.out));replace BK531:=aM (blk_below (g:=gb531) (o:=.cells #[.int .i64 a0_0,.int .i64 a0_1] 26 (0,0)) (zk BK531.out) hb);clear hb hbox hg;have hnb17:=NB531_532.out;have hnc17:=NB532_531.out;have hcz18_0:w16.cell? ⟨gb531,0,none⟩=some (.int .i64 a0_0):=(blk_cell BK531.out 0).trans rfl;have hcz18_1:w16.cell? ⟨gb531,1,none⟩=some (.int .i64 a0_1):=(blk_cell BK531.out 1).trans rfl;have hfz18_0:=blk_frozen BK531.out 0;have hfz18_1:=blk_frozen BK531.out 1;have hcz19_0:w16.cell? ⟨gb532,0,none⟩=some (.int .i64 a1_0):=(blk_cell BK532.out 0).trans rfl;have hcz19_1:w16.cell? ⟨gb532,1,none⟩=some (.int .i64 a1_1):=(blk_cell BK532.out 1).trans rfl;have hfz19_0:=blk_frozen BK532.out 0;have hfz19_1:=blk_frozen BK532.out 1));go_ret;exact ⟨by first|rfl|(simp [errW_none,errW_some]<;>rfl)|(simp [*,errW_none,errW_some]<;>rfl),zs HB.out⟩
def laws_eqRatioS.l0 : Nat → List (S26) → List (S26) → Int → Option (Bool)
 | 0, _, _, _ => none
 | k + 1, x0, x1, x5 => if x5 < (x0.length : Int) then (if 0 ≤ x5 then (if x5 < (x1.length : Int) then ((laws_eqRatio.f ((rd_T26 x0 x5).f0) ((rd_T26 x0 x5).f1) ((rd_T26 x1 x5).f0) ((rd_T26 x1 x5).f1)).bind fun t535 => (if t535 = true then (laws_eqRatioS.l0 k x0 x1 (wrap64 (x5 + 1))) else (some false))) else (none)) else (none)) else (some true)
def laws_eqRatioS.f (k : Nat) (l0 : List (S26)) (l1 : List (S26)) : Option (Bool) := if (l0.length : Int) = (l1.length : Int) then (laws_eqRatioS.l0 k l0 l1 0) else (some false)
def laws_eqRatioS.T6 : Bool × List (List Nat × List Nat) := (true, [([], []), ([], []), ([0, 1], [0, 1]), ([2], [2]), ([], []), ([], []), ([4, 5], [4, 5]), ([6], [6]), ([3, 7], [3, 7]), ([8], [8])])
def laws_eqRatioS.B6 : List Nat := [0, 0, 3, 7, 0, 0, 48, 112, 255, 511]
theorem laws_eqRatioS.tab6 : rtab .any (opsOf Try.f33 6) = laws_eqRatioS.T6 := by kernel_rfl
theorem laws_eqRatioS.bits6 : waitsOk laws_eqRatioS.T6.2 laws_eqRatioS.B6 = true := by kernel_rfl
set_option maxHeartbeats 8000000 in
set_option maxRecDepth 100000 in
theorem laws_eqRatioS.calls (k : Nat) (A0 : Option Addr) (c0 : Nat) (l0 : List (S26)) (A1 : Option Addr) (c1 : Nat) (l1 : List (S26)) (r : Bool) (w : World) (hr0 : Kd.C k26 w A0 l0.length l0) (hc0 : l0.length ≤ c0) (hr1 : Kd.C k26 w A1 l1.length l1) (hc1 : l1.length ≤ c1) (h : laws_eqRatioS.f k l0 l1 = some r) :
 Calls Try.prog 33 #[.slice A0 l0.length c0, .slice A1 l1.length c1] w fun e w' => e = .returned (.bool r) ∧ Below w.heap.size w w' := by
 have hu26:=Try.underlying26;have HR0:=aM hr0;have HC0:=aM hc0;clear hr0 hc0;have HR1:=aM hr1;have HC1:=aM hc1;clear hr1 hc1;have HB:=aM (Below.refl w.heap.size w);have H:(if (l0.length:Int)=(l1.length:Int) then (laws_eqRatioS.l0 k l0 l1 0) else (some false))=some r:=h;clear h;by_cases c3:(l0.length:Int)=(l1.length:Int)
 ·rw [if_pos c3] at H;have c3b0:((l0.length:Int) == (l1.length:Int))=true:=beq_iff_eq.mpr c3;have c3b1:((l0.length:Int) != (l1.length:Int))=false:=bne_eq_false_iff_eq.mpr c3;have c3b2:(l0.length == l1.length)=true:=(by first|simpa using c3|(simp at c3 ⊢;omega));clear c3;have H':=aM H;clear H;go_enter Try.func33,Try.ntmps33;go_wp2;go_loopg [5] k (fun kq v5 w'=>∃(x5_1:Int),v5 = .int .i64 x5_1∧Aside0 (laws_eqRatioS.l0 kq l0 l1 x5_1=some r)∧Aside0 (kq≤k)∧Aside0 (Below w.heap.size w w'));(case atStart=>exact ⟨(0),zt,H',⟨Nat.le_refl _⟩,⟨zb HB.out⟩⟩)
  case round=>
   clear H';(try clear c1);(try clear p2);(try clear c3);(try clear c3b0);(try clear c3b1);(try clear c3b2);obtain ⟨x5_1,rfl,HA,HK1,HB⟩:=hrel;cases gk with
   | zero=>exact absurd HA.out (by simp [laws_eqRatioS.l0])
   | succ k1=>
    have H:=HA.out;clear HA;simp only [laws_eqRatioS.l0] at H;by_cases c4:x5_1<(l0.length:Int)
    ·rw [if_pos c4] at H;have c4b0:decide (x5_1<(l0.length:Int))=true:=decide_eq_true c4;clear c4;obtain ⟨c5b0,H⟩:=iN H;obtain ⟨c6b0,H⟩:=iN H;obtain ⟨t535,A7,H⟩:=bz H;by_cases c8:t535=true
     ·subst c8;replace H:=ifT H;have H':=aM H;clear H;(try go_wp2);replace HB:=aM (below_drew1 HB.out);have p533:0≤(x5_1:Int):=zd;have q533:x5_1<(l0.length:Int):=zd;obtain ⟨ad533,e533,hx533_0,hx533_1⟩:=at_T26 HR0.out x5_1 p533 q533;have hw533_1:=hx533_1;have hw533_0:=hx533_0;cases e533;replace hx533_0:=(HB.out.cell (World.block_lt_of_cell? w _ hx533_0)).trans hx533_0;replace hx533_1:=(HB.out.cell (World.block_lt_of_cell? w _ hx533_1)).trans hx533_1;replace p533:=eq_true p533;replace q533:=eq_true q533;have p534:0≤(x5_1:Int):=zd;have q534:x5_1<(l1.length:Int):=zd;obtain ⟨ad534,e534,hx534_0,hx534_1⟩:=at_T26 HR1.out x5_1 p534 q534;have hw534_1:=hx534_1;have hw534_0:=hx534_0;cases e534;replace hx534_0:=(HB.out.cell (World.block_lt_of_cell? w _ hx534_0)).trans hx534_0;replace hx534_1:=(HB.out.cell (World.block_lt_of_cell? w _ hx534_1)).trans hx534_1;replace p534:=eq_true p534;replace q534:=eq_true q534;refine start_ (n:=10) (S:=fun w'=>w'.cell? (ad533.add ((x5_1).toNat*2))=some (.int .i64 ((rd_T26 l0 x5_1).f0))∧w'.cell? ⟨(ad533.add ((x5_1).toNat*2)).block,(ad533.add ((x5_1).toNat*2)).off+1,none⟩=some (.int .i64 ((rd_T26 l0 x5_1).f1))∧w'.cell? (ad534.add ((x5_1).toNat*2))=some (.int .i64 ((rd_T26 l1 x5_1).f0))∧w'.cell? ⟨(ad534.add ((x5_1).toNat*2)).block,(ad534.add ((x5_1).toNat*2)).off+1,none⟩=some (.int .i64 ((rd_T26 l1 x5_1).f1))) (ds:=[]) #[ff,ff,ff,ff,ff,ff,ff,ff,ff,ff] (by kernel_rfl) rfl rfl ⟨((HB.out.cell (World.block_lt_of_cell? w _ hw533_0)).trans hw533_0),((HB.out.cell (World.block_lt_of_cell? w _ hw533_1)).trans hw533_1),((HB.out.cell (World.block_lt_of_cell? w _ hw534_0)).trans hw534_0),((HB.out.cell (World.block_lt_of_cell? w _ hw534_1)).trans hw534_1)⟩ (fun hHeld=>?_);refine with_tabW laws_eqRatioS.tab6 laws_eqRatioS.bits6 (fun HT_ HW_=>?_);generalize wr.drew=w9 at HB hx533_0 hx533_1 hx534_0 hx534_1 hHeld ⊢;refine pu 0 (some 17) #[tt,ff,ff,ff,ff,ff,ff,ff,ff,ff] rfl rfl HT_ ?_;refine pu 1 (some 18) #[tt,tt,ff,ff,ff,ff,ff,ff,ff,ff] rfl rfl HT_ ?_;refine pu 2 (some 19) #[tt,tt,tt,ff,ff,ff,ff,ff,ff,ff] rfl rfl HT_ ?_;refine pu 4 (some 21) #[tt,tt,tt,ff,tt,ff,ff,ff,ff,ff] rfl rfl HT_ ?_;refine pu 5 (some 22) #[tt,tt,tt,ff,tt,tt,ff,ff,ff,ff] rfl rfl HT_ ?_;refine pu 6 (some 23) #[tt,tt,tt,ff,tt,tt,tt,ff,ff,ff] rfl rfl HT_ ?_;refine take_ (i:=3) (N:=some 20) (v:=?_) (a':=?_) #[tt,tt,tt,tt,tt,tt,tt,ff,ff,ff] rfl rfl (take_ofW HT_.out HW_.out (by kernel_rfl)) (fun _ _ _ h=>h) (Or.inl ⟨by rfl,?_⟩) hHeld ?_ ?_;rotate_left
      ·rintro w' ⟨s0,s1,s2,s3⟩;go_simp;(with_reducible rfl)
      rotate_left
      ·simp only [Act.put,qa,qz,qs,i64_w,i32_w];rfl
      refine take_ (i:=7) (N:=some 24) (v:=?_) (a':=?_) #[tt,tt,tt,tt,tt,tt,tt,tt,ff,ff] rfl rfl (take_ofW HT_.out HW_.out (by kernel_rfl)) (fun _ _ _ h=>h) (Or.inl ⟨by rfl,?_⟩) hHeld ?_ ?_;rotate_left
      ·rintro w' ⟨s0,s1,s2,s3⟩;go_simp;(with_reducible rfl)
      rotate_left
      ·simp only [Act.put,qa,qz,qs,i64_w,i32_w];rfl
      refine one_ (i:=8) (N:=some 25) #[tt,tt,tt,tt,tt,tt,tt,tt,tt,ff] rfl rfl (one_of HT_.out (by kernel_rfl)) (by decide) (fun K hK=>?_);refine gs Try.func20 #[.agg #[.int .i64 ((rd_T26 l0 x5_1).f0),.int .i64 ((rd_T26 l0 x5_1).f1)],.agg #[.int .i64 ((rd_T26 l1 x5_1).f0),.int .i64 ((rd_T26 l1 x5_1).f1)]] ?_;(with_reducible refine (laws_eqRatio.calls ((rd_T26 l0 x5_1).f0) ((rd_T26 l0 x5_1).f1) ((rd_T26 l1 x5_1).f0) ((rd_T26 l1 x5_1).f1) true _ A7.out).mono ?_);rintro e w10 ⟨rfl,hb⟩;refine ⟨_,rfl,?_⟩;replace HB:=aM (below_step (zb HB.out) hb);(try clear hb);(try clear hb2);(try clear hk);(try clear hi);refine hK.out _ _ ⟨((HB.out.cell (World.block_lt_of_cell? w _ hw533_0)).trans hw533_0),((HB.out.cell (World.block_lt_of_cell? w _ hw533_1)).trans hw533_1),((HB.out.cell (World.block_lt_of_cell? w _ hw534_0)).trans hw534_0),((HB.out.cell (World.block_lt_of_cell? w _ hw534_1)).trans hw534_1)⟩ (fun hHeld=>?_);clear hK K;refine norm_ (a':=?_) ?_ ?_;rotate_left
      ·show Act.put _ (some 25) _=_;simp only [Act.put,qa,qz,qs,i64_w,i32_w];rfl
      refine pu 9 (some 26) #[tt,tt,tt,tt,tt,tt,tt,tt,tt,tt] rfl rfl HT_ ?_;refine done_ (done_of HT_.out (by kernel_rfl)) ?_;(try go_wp2);go_roundg k1;(case measure=>have:=HK1.out;omega);(case rel=>exact ⟨(wrap64 (x5_1+1)),zt,H',⟨by have:=HK1.out;omega⟩,⟨zb HB.out⟩⟩)
     ·replace c8:=Bool.eq_false_iff.mpr c8;subst c8;replace H:=ifF H;obtain rfl:=Option.some.inj H;(try go_wp2);replace HB:=aM (below_drew1 HB.out);have p533:0≤(x5_1:Int):=zd;have q533:x5_1<(l0.length:Int):=zd;obtain ⟨ad533,e533,hx533_0,hx533_1⟩:=at_T26 HR0.out x5_1 p533 q533;have hw533_1:=hx533_1;have hw533_0:=hx533_0;cases e533;replace hx533_0:=(HB.out.cell (World.block_lt_of_cell? w _ hx533_0)).trans hx533_0;replace hx533_1:=(HB.out.cell (World.block_lt_of_cell? w _ hx533_1)).trans hx533_1;replace p533:=eq_true p533;replace q533:=eq_true q533;have p534:0≤(x5_1:Int):=zd;have q534:x5_1<(l1.length:Int):=zd;obtain ⟨ad534,e534,hx534_0,hx534_1⟩:=at_T26 HR1.out x5_1 p534 q534;have hw534_1:=hx534_1;have hw534_0:=hx534_0;cases e534;replace hx534_0:=(HB.out.cell (World.block_lt_of_cell? w _ hx534_0)).trans hx534_0;replace hx534_1:=(HB.out.cell (World.block_lt_of_cell? w _ hx534_1)).trans hx534_1;replace p534:=eq_true p534;replace q534:=eq_true q534;refine start_ (n:=10) (S:=fun w'=>w'.cell? (ad533.add ((x5_1).toNat*2))=some (.int .i64 ((rd_T26 l0 x5_1).f0))∧w'.cell? ⟨(ad533.add ((x5_1).toNat*2)).block,(ad533.add ((x5_1).toNat*2)).off+1,none⟩=some (.int .i64 ((rd_T26 l0 x5_1).f1))∧w'.cell? (ad534.add ((x5_1).toNat*2))=some (.int .i64 ((rd_T26 l1 x5_1).f0))∧w'.cell? ⟨(ad534.add ((x5_1).toNat*2)).block,(ad534.add ((x5_1).toNat*2)).off+1,none⟩=some (.int .i64 ((rd_T26 l1 x5_1).f1))) (ds:=[]) #[ff,ff,ff,ff,ff,ff,ff,ff,ff,ff] (by kernel_rfl) rfl rfl ⟨((HB.out.cell (World.block_lt_of_cell? w _ hw533_0)).trans hw533_0),((HB.out.cell (World.block_lt_of_cell? w _ hw533_1)).trans hw533_1),((HB.out.cell (World.block_lt_of_cell? w _ hw534_0)).trans hw534_0),((HB.out.cell (World.block_lt_of_cell? w _ hw534_1)).trans hw534_1)⟩ (fun hHeld=>?_);refine with_tabW laws_eqRatioS.tab6 laws_eqRatioS.bits6 (fun HT_ HW_=>?_);generalize wr.drew=w11 at HB hx533_0 hx533_1 hx534_0 hx534_1 hHeld ⊢;refine pu 0 (some 17) #[tt,ff,ff,ff,ff,ff,ff,ff,ff,ff] rfl rfl HT_ ?_;refine pu 1 (some 18) #[tt,tt,ff,ff,ff,ff,ff,ff,ff,ff] rfl rfl HT_ ?_;refine pu 2 (some 19) #[tt,tt,tt,ff,ff,ff,ff,ff,ff,ff] rfl rfl HT_ ?_;refine pu 4 (some 21) #[tt,tt,tt,ff,tt,ff,ff,ff,ff,ff] rfl rfl HT_ ?_;refine pu 5 (some 22) #[tt,tt,tt,ff,tt,tt,ff,ff,ff,ff] rfl rfl HT_ ?_;refine pu 6 (some 23) #[tt,tt,tt,ff,tt,tt,tt,ff,ff,ff] rfl rfl HT_ ?_;refine take_ (i:=3) (N:=some 20) (v:=?_) (a':=?_) #[tt,tt,tt,tt,tt,tt,tt,ff,ff,ff] rfl rfl (take_ofW HT_.out HW_.out (by kernel_rfl)) (fun _ _ _ h=>h) (Or.inl ⟨by rfl,?_⟩) hHeld ?_ ?_;rotate_left
      ·rintro w' ⟨s0,s1,s2,s3⟩;go_simp;(with_reducible rfl)
      rotate_left
      ·simp only [Act.put,qa,qz,qs,i64_w,i32_w];rfl
      refine take_ (i:=7) (N:=some 24) (v:=?_) (a':=?_) #[tt,tt,tt,tt,tt,tt,tt,tt,ff,ff] rfl rfl (take_ofW HT_.out HW_.out (by kernel_rfl)) (fun _ _ _ h=>h) (Or.inl ⟨by rfl,?_⟩) hHeld ?_ ?_;rotate_left
      ·rintro w' ⟨s0,s1,s2,s3⟩;go_simp;(with_reducible rfl)
      rotate_left
      ·simp only [Act.put,qa,qz,qs,i64_w,i32_w];rfl
      refine one_ (i:=8) (N:=some 25) #[tt,tt,tt,tt,tt,tt,tt,tt,tt,ff] rfl rfl (one_of HT_.out (by kernel_rfl)) (by decide) (fun K hK=>?_);refine gs Try.func20 #[.agg #[.int .i64 ((rd_T26 l0 x5_1).f0),.int .i64 ((rd_T26 l0 x5_1).f1)],.agg #[.int .i64 ((rd_T26 l1 x5_1).f0),.int .i64 ((rd_T26 l1 x5_1).f1)]] ?_;(with_reducible refine (laws_eqRatio.calls ((rd_T26 l0 x5_1).f0) ((rd_T26 l0 x5_1).f1) ((rd_T26 l1 x5_1).f0) ((rd_T26 l1 x5_1).f1) false _ A7.out).mono ?_);rintro e w12 ⟨rfl,hb⟩;refine ⟨_,rfl,?_⟩;replace HB:=aM (below_step (zb HB.out) hb);(try clear hb);(try clear hb2);(try clear hk);(try clear hi);refine hK.out _ _ ⟨((HB.out.cell (World.block_lt_of_cell? w _ hw533_0)).trans hw533_0),((HB.out.cell (World.block_lt_of_cell? w _ hw533_1)).trans hw533_1),((HB.out.cell (World.block_lt_of_cell? w _ hw534_0)).trans hw534_0),((HB.out.cell (World.block_lt_of_cell? w _ hw534_1)).trans hw534_1)⟩ (fun hHeld=>?_);clear hK K;refine norm_ (a':=?_) ?_ ?_;rotate_left
      ·show Act.put _ (some 25) _=_;simp only [Act.put,qa,qz,qs,i64_w,i32_w];rfl
      refine pu 9 (some 26) #[tt,tt,tt,tt,tt,tt,tt,tt,tt,tt] rfl rfl HT_ ?_;refine done_ (done_of HT_.out (by kernel_rfl)) ?_;(try go_wp2);go_ret;exact ⟨by first|rfl|(simp [errW_none,errW_some]<;>rfl)|(simp [*,errW_none,errW_some]<;>rfl),zb HB.out⟩
    ·rw [if_neg c4] at H;have c4b0:decide (x5_1<(l0.length:Int))=false:=decide_eq_false c4;clear c4;obtain rfl:=Option.some.inj H;go_wp2;go_ret;exact ⟨by first|rfl|(simp [errW_none,errW_some]<;>rfl)|(simp [*,errW_none,errW_some]<;>rfl),zb HB.out⟩
 ·rw [if_neg c3] at H;have c3b0:((l0.length:Int) == (l1.length:Int))=false:=beq_eq_false_iff_ne.mpr c3;have c3b1:((l0.length:Int) != (l1.length:Int))=true:=bne_iff_ne.mpr c3;have c3b2:(l0.length == l1.length)=false:=(by first|simpa using c3|(simp at c3 ⊢;omega));obtain rfl:=Option.some.inj H;go_enter Try.func33,Try.ntmps33;go_wp2;go_ret;exact ⟨by first|rfl|(simp [errW_none,errW_some]<;>rfl)|(simp [*,errW_none,errW_some]<;>rfl),zb HB.out⟩
def laws_markIntS.l0 : Nat → List Int → Int → Int → Option (Int × List Int)
 | 0, _, _, _ => none
 | k + 1, x0, x1, x5 => if x5 < (x0.length : Int) then (if 0 ≤ x5 then (laws_markIntS.l0 k (x0.set (x5 : Int).toNat x1) (wrap64 (x1 + 1)) (wrap64 (x5 + 1))) else (none)) else (some (x1, x0))
def laws_markIntS.f (k : Nat) (l0 : List Int) (a1 : Int) : Option (Int × List Int) := laws_markIntS.l0 k l0 a1 0
set_option maxHeartbeats 8000000 in
set_option maxRecDepth 100000 in
theorem laws_markIntS.calls (k : Nat) (P0_ : Nat → Prop) (u9000_ : Value) (l0 : List Int) (a1 : Int) (r1 : Int) (r2 : List Int) (w0 w : World) (hB : Below w0.heap.size w0 w) (ho0 : Kd.R (Kd.int .i64) 3 w w0.heap.size P0_ u9000_ l0) (h : laws_markIntS.f k l0 a1 = some (r1, r2)) :
 Calls Try.prog 35 #[u9000_, .int .i64 a1] w fun e w' => e = .returned (.int .i64 r1) ∧ Kd.R (Kd.int .i64) 3 w' w0.heap.size (fun k_ => (P0_ k_ ∨ w.heap.size ≤ k_)) u9000_ r2 ∧ Below w0.heap.size w0 w' ∧ Kept w w' (fun k_ => P0_ k_) := by
 have HO0:=aM (show Kd.R (Kd.int .i64) 3 w w0.heap.size (fun k_=>(P0_ k_∨w.heap.size≤k_)) u9000_ l0 from Kd.R_mono ho0 (fun k_ hk=>(.inl hk)));have HK:=aM (Kept.refl w (fun k_=>P0_ k_));have HW0:=aM hB.size;have HB:=aM hB;clear hB;have H:(laws_markIntS.l0 k l0 a1 0)=some (r1,r2):=h;clear h;have H':=aM H;clear H;go_enter Try.func35,Try.ntmps35;go_wp2;go_loopg [1,5] k (fun kq v1 v5 w'=>∃(x0_1:List Int) (x1_1:Int) (x5_1:Int),v1 = .int .i64 x1_1∧v5 = .int .i64 x5_1∧Aside0 (laws_markIntS.l0 kq x0_1 x1_1 x5_1=some (r1,r2))∧Aside0 (kq≤k)∧Aside0 (Kd.R (Kd.int .i64) 3 w' w0.heap.size (fun k_=>(P0_ k_∨w.heap.size≤k_)) u9000_ x0_1)∧Aside0 (Kept w w' (fun k_=>P0_ k_))∧Aside0 (Below w0.heap.size w0 w'));(case atStart=>exact ⟨(l0),(a1),(0),zt,zt,H',⟨Nat.le_refl _⟩,⟨zr HO0.out⟩,⟨zp HK.out⟩,⟨zb HB.out⟩⟩)
 case round=>
  clear H';(try clear p2);obtain ⟨x0_1,x1_1,x5_1,rfl,rfl,HA,HK1,HO_0,HK,HB⟩:=hrel;cases gk with
  | zero=>exact absurd HA.out (by simp [laws_markIntS.l0])
  | succ k1=>
   have H:=HA.out;clear HA;simp only [laws_markIntS.l0] at H;by_cases c3:x5_1<(x0_1.length:Int)
   ·rw [if_pos c3] at H;have c3b0:decide (x5_1<(x0_1.length:Int))=true:=decide_eq_true c3;clear c3;obtain ⟨c4b0,H⟩:=iN H;obtain ⟨y536,hy536⟩:∃y_:List Int,y_=(x0_1.set (x5_1:Int).toNat x1_1):=⟨_,rfl⟩;replace H:(laws_markIntS.l0 k1 y536 (wrap64 (x1_1+1)) (wrap64 (x5_1+1)))=some (r1,r2):=(by first|(rw [hy536];with_reducible exact H)|(have H2_:=(Option.bind_some _ _).symm.trans H;rw [hy536];with_reducible exact H2_)|(have H2_:=(Option.bind_some _ _).symm.trans H;with_reducible exact H2_)|with_reducible exact H|(rw [hy536];exact H)|exact H);have Ny536:=aM hy536;clear hy536;have H':=aM H;clear H;obtain ⟨Ao6,co6,eo6⟩:=Kd.R_slice HO_0.out;subst eo6;have p5:0≤(x5_1:Int):=zd;have q5:(x5_1:Int)<((x0_1.length:Int):Int):=zd;obtain ⟨go5,co5,eo5,gb5,gl5,cl5,HG5⟩:=Kd.R_form HO_0.out (by omega);(first|cases eo5|(injection eo5 with ea_ en_ ec_;(first|subst ea_|(injection ea_ with ea_;subst ea_));subst ec_;clear en_));have GB5:=aM gb5;have GG5:=aM HG5;clear gb5 gl5 HG5;have HMgo5:=aM (show (P0_ go5∨w.heap.size≤go5) from (HO_0.out.1 _ rfl));obtain ⟨hx5_0,hf5_0⟩:=Kd.R_celln 0 HO_0.out (x5_1:Int) p5 q5;replace p5:=eq_true p5;replace q5:=eq_true q5;have HP7:=Kd.R_putg HO_0.out (x5_1:Int) x1_1;go_wp2_with (first|((with_reducible refine gate_store (t:=3) (p:=15) rfl ?_);refine store_event (t:=3) (p:=15) (v:=?vo_w8) (w1:=(wr.setCell ⟨go5,(x5_1:Int).toNat,none⟩ (.int .i64 x1_1))) ?hg ?ho ?hn ?hr ?_;(case ho=>rfl);(case hg=>rfl);(case hn=>rfl);(case hr=>first|(go_simp;done)|(go_simp;rfl));intro w8 hw;have hg:wr.grownBy w8 (some go5):=(by rw [hw];exact HP7.2);have hp_:Kd.R (Kd.int .i64) 3 w8 w0.heap.size (fun k_=>(P0_ k_∨w.heap.size≤k_)) (.slice (some ⟨go5,0,none⟩) x0_1.length co6) y536:=(by rw [hw,Ny536.out];exact HP7.1);clear HP7;replace HB:=aM ((by rw [hw];exact below_set (HB.out) GB5.out:Below w0.heap.size w0 w8));replace HK:=aM (Kept.of_grown (S:=(fun k_=>P0_ k_)) hg (zp HK.out) (fun k_ e_=>(HO_0.out.1 k_ e_)));replace HO_0:=aM (hp_);clear hg hw hp_));go_roundg k1;(case measure=>have:=HK1.out;omega);(case rel=>exact ⟨(y536),(wrap64 (x1_1+1)),(wrap64 (x5_1+1)),zt,zt,H',⟨by have:=HK1.out;omega⟩,⟨zr HO_0.out⟩,⟨zp HK.out⟩,⟨zb HB.out⟩⟩)
   ·rw [if_neg c3] at H;have c3b0:decide (x5_1<(x0_1.length:Int))=false:=decide_eq_false c3;clear c3;simp only [Option.some.injEq,Prod.mk.injEq] at H;obtain ⟨rfl,rfl⟩:=H;obtain ⟨Ao9,co9,eo9⟩:=Kd.R_slice HO_0.out;subst eo9;go_wp2;go_ret;exact ⟨by first|rfl|(simp [errW_none,errW_some]<;>rfl)|(simp [*,errW_none,errW_some]<;>rfl),zr HO_0.out,zb HB.out,zp HK.out⟩
def laws_markRatioS.l0 : Nat → List (S26) → Int → Int → Option (Int × (List (S26)))
 | 0, _, _, _ => none
 | k + 1, x0, x1, x5 => if x5 < (x0.length : Int) then (if 0 ≤ x5 then ((some (x0.set (x5 : Int).toNat (⟨x1, (rd_T26 x0 x5).f1⟩ : S26) : List (S26))).bind fun y540 => (laws_markRatioS.l0 k (y540.set (x5 : Int).toNat (⟨(rd_T26 y540 x5).f0, wrap64 (x1 + 1)⟩ : S26)) (wrap64 ((wrap64 (x1 + 1)) + 1)) (wrap64 (x5 + 1)))) else (none)) else (some (x1, x0))
def laws_markRatioS.f (k : Nat) (l0 : List (S26)) (a1 : Int) : Option (Int × (List (S26))) := laws_markRatioS.l0 k l0 a1 0
set_option maxHeartbeats 8000000 in
set_option maxRecDepth 100000 in
theorem laws_markRatioS.calls (k : Nat) (P0_ : Nat → Prop) (u9000_ : Value) (l0 : List (S26)) (a1 : Int) (r1 : Int) (r2 : List (S26)) (w0 w : World) (hB : Below w0.heap.size w0 w) (ho0 : Kd.R k26 26 w w0.heap.size P0_ u9000_ l0) (h : laws_markRatioS.f k l0 a1 = some (r1, r2)) :
 Calls Try.prog 36 #[u9000_, .int .i64 a1] w fun e w' => e = .returned (.int .i64 r1) ∧ Kd.R k26 26 w' w0.heap.size (fun k_ => (P0_ k_ ∨ w.heap.size ≤ k_)) u9000_ r2 ∧ Below w0.heap.size w0 w' ∧ Kept w w' (fun k_ => P0_ k_) := by
 have HO0:=aM (show Kd.R k26 26 w w0.heap.size (fun k_=>(P0_ k_∨w.heap.size≤k_)) u9000_ l0 from Kd.R_mono ho0 (fun k_ hk=>(.inl hk)));have HK:=aM (Kept.refl w (fun k_=>P0_ k_));have HW0:=aM hB.size;have HB:=aM hB;clear hB;have H:(laws_markRatioS.l0 k l0 a1 0)=some (r1,r2):=h;clear h;have H':=aM H;clear H;go_enter Try.func36,Try.ntmps36;go_wp2;go_loopg [1,5] k (fun kq v1 v5 w'=>∃(x0_1:List (S26)) (x1_1:Int) (x5_1:Int),v1 = .int .i64 x1_1∧v5 = .int .i64 x5_1∧Aside0 (laws_markRatioS.l0 kq x0_1 x1_1 x5_1=some (r1,r2))∧Aside0 (kq≤k)∧Aside0 (Kd.R k26 26 w' w0.heap.size (fun k_=>(P0_ k_∨w.heap.size≤k_)) u9000_ x0_1)∧Aside0 (Kept w w' (fun k_=>P0_ k_))∧Aside0 (Below w0.heap.size w0 w'));(case atStart=>exact ⟨(l0),(a1),(0),zt,zt,H',⟨Nat.le_refl _⟩,⟨zr HO0.out⟩,⟨zp HK.out⟩,⟨zb HB.out⟩⟩)
 case round=>
  clear H';(try clear p2);obtain ⟨x0_1,x1_1,x5_1,rfl,rfl,HA,HK1,HO_0,HK,HB⟩:=hrel;cases gk with
  | zero=>exact absurd HA.out (by simp [laws_markRatioS.l0])
  | succ k1=>
   have H:=HA.out;clear HA;simp only [laws_markRatioS.l0] at H;by_cases c3:x5_1<(x0_1.length:Int)
   ·rw [if_pos c3] at H;have c3b0:decide (x5_1<(x0_1.length:Int))=true:=decide_eq_true c3;clear c3;obtain ⟨c4b0,H⟩:=iN H;obtain ⟨y540,hy540⟩:∃y_:List (S26),y_=(x0_1.set (x5_1:Int).toNat (⟨x1_1,(rd_T26 x0_1 x5_1).f1⟩:S26)):=⟨_,rfl⟩;replace H:(laws_markRatioS.l0 k1 (y540.set (x5_1:Int).toNat (⟨(rd_T26 y540 x5_1).f0,wrap64 (x1_1+1)⟩:S26)) (wrap64 ((wrap64 (x1_1+1))+1)) (wrap64 (x5_1+1)))=some (r1,r2):=(by first|(rw [hy540];with_reducible exact H)|(have H2_:=(Option.bind_some _ _).symm.trans H;rw [hy540];with_reducible exact H2_)|(have H2_:=(Option.bind_some _ _).symm.trans H;with_reducible exact H2_)|with_reducible exact H|(rw [hy540];exact H)|exact H);have Ny540:=aM hy540;clear hy540;obtain ⟨y541,hy541⟩:∃y_:List (S26),y_=(y540.set (x5_1:Int).toNat (⟨(rd_T26 y540 x5_1).f0,wrap64 (x1_1+1)⟩:S26)):=⟨_,rfl⟩;replace H:(laws_markRatioS.l0 k1 y541 (wrap64 ((wrap64 (x1_1+1))+1)) (wrap64 (x5_1+1)))=some (r1,r2):=(by first|(rw [hy541];with_reducible exact H)|(have H2_:=(Option.bind_some _ _).symm.trans H;rw [hy541];with_reducible exact H2_)|(have H2_:=(Option.bind_some _ _).symm.trans H;with_reducible exact H2_)|with_reducible exact H|(rw [hy541];exact H)|exact H);have Ny541:=aM hy541;clear hy541;have H':=aM H;clear H;obtain ⟨Ao7,co7,eo7⟩:=Kd.R_slice HO_0.out;subst eo7;have p5:0≤(x5_1:Int):=zd;have q5:(x5_1:Int)<((x0_1.length:Int):Int):=zd;obtain ⟨go5,co5,eo5,gb5,gl5,cl5,HG5⟩:=Kd.R_form HO_0.out (by omega);(first|cases eo5|(injection eo5 with ea_ en_ ec_;(first|subst ea_|(injection ea_ with ea_;subst ea_));subst ec_;clear en_));have GB5:=aM gb5;have GG5:=aM HG5;clear gb5 gl5 HG5;have HMgo5:=aM (show (P0_ go5∨w.heap.size≤go5) from (HO_0.out.1 _ rfl));obtain ⟨ce5,hcl5,hM5,hcc5,hfr5⟩:=Kd.R_elem HO_0.out z26 (x5_1:Int) p5 q5;obtain rfl:=k26_openM hM5;have hx5_0:wr.cell? ⟨go5,(x5_1:Int).toNat*2,none⟩=some (.int .i64 ((rd_T26 x0_1 x5_1).f0)):=hcc5 0 _ rfl;have hx5_1:wr.cell? ⟨go5,(x5_1:Int).toNat*2+1,none⟩=some (.int .i64 ((rd_T26 x0_1 x5_1).f1)):=hcc5 1 _ rfl;have hf5_0:wr.frozen? ⟨go5,(x5_1:Int).toNat*2,none⟩=false:=hfr5 0;have hf5_1:wr.frozen? ⟨go5,(x5_1:Int).toNat*2+1,none⟩=false:=hfr5 1;clear hcl5 hcc5 hfr5;(try clear hM5);replace p5:=eq_true p5;replace q5:=eq_true q5;have HX8:=aM (show Kd.R k26 26 wr w0.heap.size (fun k_=>(P0_ k_∨w.heap.size≤k_)) (.slice (some ⟨go5,0,none⟩) x0_1.length co7) x0_1 from (zr HO_0.out));obtain ⟨ce8,hcl8,hM8,hcc8,hfr8⟩:=Kd.R_elem HX8.out z26 (x5_1:Int) (zd) (by have h_:(x5_1:Int)<((x0_1.length:Int):Int):=zd;first|exact h_|(have e_:=(Kd.R_reads' HO_0.out).1;omega)|simpa using h_);obtain rfl:=k26_openM hM8;have HP8:=Kd.R_seg HX8.out (x5_1:Int) (zd) (by have h_:(x5_1:Int)<((x0_1.length:Int):Int):=zd;first|exact h_|(have e_:=(Kd.R_reads' HO_0.out).1;omega)|simpa using h_) (seg:=[.int .i64 x1_1]) (j:=0) hcl8 hcc8 (show 1≤2 from by decide) (x':=(⟨x1_1,(rd_T26 x0_1 x5_1).f1⟩:S26)) (k26_mkM _ _ _ (⟨x1_1,(rd_T26 x0_1 x5_1).f1⟩:S26)) (fun _ hk=>hk);have hx8_0:=hcc8 0 _ rfl;(try simp only [show (k26).sz=2 from rfl,Nat.mul_one,Nat.add_zero] at hx8_0);have hf8_0:=hfr8 0;(try simp only [show (k26).sz=2 from rfl,Nat.mul_one,Nat.add_zero] at hf8_0);clear hcl8 hcc8 hfr8;(try clear hM8);go_wp2_with (first|((with_reducible refine gate_store (t:=3) (p:=16) rfl ?_);refine store_event (t:=3) (p:=16) (v:=?vo_w9) (w1:=(wr.setCell ⟨go5,(x5_1:Int).toNat*2,none⟩ (.int .i64 x1_1))) ?hg ?ho ?hn ?hr ?_;(case ho=>rfl);(case hg=>rfl);(case hn=>rfl);(case hr=>first|(go_simp;done)|(go_simp;rfl));intro w9 hw;have hg:wr.grownBy w9 (some go5):=(by rw [hw];exact HP8.2);have hp_:Kd.R k26 26 w9 w0.heap.size (fun k_=>(P0_ k_∨w.heap.size≤k_)) (.slice (some ⟨go5,0,none⟩) x0_1.length co7) y540:=(by rw [hw,Ny540.out];exact HP8.1);clear HP8;replace HB:=aM ((by rw [hw];exact below_set (HB.out) GB5.out:Below w0.heap.size w0 w9));replace HK:=aM (Kept.of_grown (S:=(fun k_=>P0_ k_)) hg (zp HK.out) (fun k_ e_=>(HO_0.out.1 k_ e_)));replace HO_0:=aM (hp_);clear hg hw hp_;have p6:0≤(x5_1:Int):=zd;have q6:(x5_1:Int)<((x0_1.length:Int):Int):=zd;obtain ⟨ce6,hcl6,hM6,hcc6,hfr6⟩:=Kd.R_elem HO_0.out z26 (x5_1:Int) p6 q6;obtain rfl:=k26_openM hM6;have hx6_0:w9.cell? ⟨go5,(x5_1:Int).toNat*2,none⟩=some (.int .i64 ((rd_T26 y540 x5_1).f0)):=hcc6 0 _ rfl;have hx6_1:w9.cell? ⟨go5,(x5_1:Int).toNat*2+1,none⟩=some (.int .i64 ((rd_T26 y540 x5_1).f1)):=hcc6 1 _ rfl;have hf6_0:w9.frozen? ⟨go5,(x5_1:Int).toNat*2,none⟩=false:=hfr6 0;have hf6_1:w9.frozen? ⟨go5,(x5_1:Int).toNat*2+1,none⟩=false:=hfr6 1;clear hcl6 hcc6 hfr6;(try clear hM6);replace p6:=eq_true p6;replace q6:=eq_true q6;have HX10:=aM (show Kd.R k26 26 w9 w0.heap.size (fun k_=>(P0_ k_∨w.heap.size≤k_)) (.slice (some ⟨go5,0,none⟩) x0_1.length co7) y540 from (zr HO_0.out));obtain ⟨ce10,hcl10,hM10,hcc10,hfr10⟩:=Kd.R_elem HX10.out z26 (x5_1:Int) (zd) (by have h_:(x5_1:Int)<((x0_1.length:Int):Int):=zd;first|exact h_|(have e_:=(Kd.R_reads' HO_0.out).1;omega)|simpa using h_);obtain rfl:=k26_openM hM10;have HP10:=Kd.R_seg HX10.out (x5_1:Int) (zd) (by have h_:(x5_1:Int)<((x0_1.length:Int):Int):=zd;first|exact h_|(have e_:=(Kd.R_reads' HO_0.out).1;omega)|simpa using h_) (seg:=[.int .i64 (wrap64 (x1_1+1))]) (j:=1) hcl10 hcc10 (show 2≤2 from by decide) (x':=(⟨(rd_T26 y540 x5_1).f0,wrap64 (x1_1+1)⟩:S26)) (k26_mkM _ _ _ (⟨(rd_T26 y540 x5_1).f0,wrap64 (x1_1+1)⟩:S26)) (fun _ hk=>hk);have hx10_1:=hcc10 1 _ rfl;(try simp only [show (k26).sz=2 from rfl,Nat.mul_one,Nat.add_zero] at hx10_1);have hf10_1:=hfr10 1;(try simp only [show (k26).sz=2 from rfl,Nat.mul_one,Nat.add_zero] at hf10_1);clear hcl10 hcc10 hfr10;(try clear hM10))|((with_reducible refine gate_store (t:=3) (p:=23) rfl ?_);refine store_event (t:=3) (p:=23) (v:=?vo_w11) (w1:=(w9.setCell ⟨go5,(x5_1:Int).toNat*2+1,none⟩ (.int .i64 (wrap64 (x1_1+1))))) ?hg ?ho ?hn ?hr ?_;(case ho=>rfl);(case hg=>rfl);(case hn=>rfl);(case hr=>first|(go_simp;done)|(go_simp;rfl));intro w11 hw;have hg:w9.grownBy w11 (some go5):=(by rw [hw];exact HP10.2);have hp_:Kd.R k26 26 w11 w0.heap.size (fun k_=>(P0_ k_∨w.heap.size≤k_)) (.slice (some ⟨go5,0,none⟩) x0_1.length co7) y541:=(by rw [hw,Ny541.out];exact HP10.1);clear HP10;replace HB:=aM ((by rw [hw];exact below_set (HB.out) GB5.out:Below w0.heap.size w0 w11));replace HK:=aM (Kept.of_grown (S:=(fun k_=>P0_ k_)) hg (zp HK.out) (fun k_ e_=>(HO_0.out.1 k_ e_)));replace HO_0:=aM (hp_);clear hg hw hp_));go_roundg k1;(case measure=>have:=HK1.out;omega);(case rel=>exact ⟨(y541),(wrap64 ((wrap64 (x1_1+1))+1)),(wrap64 (x5_1+1)),zt,zt,H',⟨by have:=HK1.out;omega⟩,⟨zr HO_0.out⟩,⟨zp HK.out⟩,⟨zb HB.out⟩⟩)
   ·rw [if_neg c3] at H;have c3b0:decide (x5_1<(x0_1.length:Int))=false:=decide_eq_false c3;clear c3;simp only [Option.some.injEq,Prod.mk.injEq] at H;obtain ⟨rfl,rfl⟩:=H;obtain ⟨Ao12,co12,eo12⟩:=Kd.R_slice HO_0.out;subst eo12;go_wp2;go_ret;exact ⟨by first|rfl|(simp [errW_none,errW_some]<;>rfl)|(simp [*,errW_none,errW_some]<;>rfl),zr HO_0.out,zb HB.out,zp HK.out⟩
def laws_heldRatioS.l0 : Nat → List (S26) → Int → Int → Option (Int)
 | 0, _, _, _ => none
 | k + 1, x0, x1, x5 => if x5 < (x0.length : Int) then (if 0 ≤ x5 then (if ((rd_T26 x0 x5).f0) = x1 then (if ((rd_T26 x0 x5).f1) = (wrap64 (x1 + 1)) then (laws_heldRatioS.l0 k x0 (wrap64 ((wrap64 (x1 + 1)) + 1)) (wrap64 (x5 + 1))) else (some (-1))) else (some (-1))) else (none)) else (some x1)
def laws_heldRatioS.f (k : Nat) (l0 : List (S26)) (a1 : Int) : Option (Int) := laws_heldRatioS.l0 k l0 a1 0
set_option maxHeartbeats 8000000 in
set_option maxRecDepth 100000 in
theorem laws_heldRatioS.calls (k : Nat) (A0 : Option Addr) (c0 : Nat) (l0 : List (S26)) (a1 : Int) (r : Int) (w : World) (hr0 : Kd.C k26 w A0 l0.length l0) (hc0 : l0.length ≤ c0) (h : laws_heldRatioS.f k l0 a1 = some r) :
 Calls Try.prog 37 #[.slice A0 l0.length c0, .int .i64 a1] w fun e w' => e = .returned (.int .i64 r) ∧ Drawn0 w w' := by
 have HR0:=aM hr0;have HC0:=aM hc0;clear hr0 hc0;have H:(laws_heldRatioS.l0 k l0 a1 0)=some r:=h;clear h;have H':=aM H;clear H;go_enter Try.func37,Try.ntmps37;go_wp2;go_loopg [1,5] k (fun kq v1 v5 w'=>∃(x1_1:Int) (x5_1:Int),v1 = .int .i64 x1_1∧v5 = .int .i64 x5_1∧Aside0 (laws_heldRatioS.l0 kq l0 x1_1 x5_1=some r)∧Aside0 (kq≤k)∧Drawn0 w w');(case atStart=>exact ⟨(a1),(0),zt,zt,H',⟨Nat.le_refl _⟩,by repeat (first|exact Drawn0.refl _|apply Drawn0.step)⟩)
 case round=>
  clear H';(try clear p2);obtain ⟨x1_1,x5_1,rfl,rfl,HA,HK1,⟨m1,rfl⟩⟩:=hrel;cases gk with
  | zero=>exact absurd HA.out (by simp [laws_heldRatioS.l0])
  | succ k1=>
   have H:=HA.out;clear HA;simp only [laws_heldRatioS.l0] at H;by_cases c3:x5_1<(l0.length:Int)
   ·rw [if_pos c3] at H;have c3b0:decide (x5_1<(l0.length:Int))=true:=decide_eq_true c3;clear c3;obtain ⟨c4b0,H⟩:=iN H;by_cases c5:((rd_T26 l0 x5_1).f0)=x1_1
    ·rw [if_pos c5] at H;have c5b0:(((rd_T26 l0 x5_1).f0) == x1_1)=true:=beq_iff_eq.mpr c5;have c5b1:(((rd_T26 l0 x5_1).f0) != x1_1)=false:=bne_eq_false_iff_eq.mpr c5;clear c5;by_cases c6:((rd_T26 l0 x5_1).f1)=(wrap64 (x1_1+1))
     ·rw [if_pos c6] at H;have c6b0:(((rd_T26 l0 x5_1).f1) == (wrap64 (x1_1+1)))=true:=beq_iff_eq.mpr c6;have c6b1:(((rd_T26 l0 x5_1).f1) != (wrap64 (x1_1+1)))=false:=bne_eq_false_iff_eq.mpr c6;clear c6;have H':=aM H;clear H;have p542:0≤(x5_1:Int):=zd;have q542:x5_1<(l0.length:Int):=zd;obtain ⟨ad542,e542,hx542_0,hx542_1⟩:=at_T26 HR0.out x5_1 p542 q542;cases e542;replace p542:=eq_true p542;replace q542:=eq_true q542;have p543:0≤(x5_1:Int):=zd;have q543:x5_1<(l0.length:Int):=zd;obtain ⟨ad543,e543,hx543_0,hx543_1⟩:=at_T26 HR0.out x5_1 p543 q543;obtain rfl:ad542=ad543:=(by injection e543);replace p543:=eq_true p543;replace q543:=eq_true q543;go_wp2;go_roundg k1;(case measure=>have:=HK1.out;omega);(case rel=>exact ⟨(wrap64 ((wrap64 (x1_1+1))+1)),(wrap64 (x5_1+1)),zt,zt,H',⟨by have:=HK1.out;omega⟩,by repeat (first|exact Drawn0.refl _|apply Drawn0.step)⟩)
     ·rw [if_neg c6] at H;have c6b0:(((rd_T26 l0 x5_1).f1) == (wrap64 (x1_1+1)))=false:=beq_eq_false_iff_ne.mpr c6;have c6b1:(((rd_T26 l0 x5_1).f1) != (wrap64 (x1_1+1)))=true:=bne_iff_ne.mpr c6;obtain rfl:=Option.some.inj H;have p542:0≤(x5_1:Int):=zd;have q542:x5_1<(l0.length:Int):=zd;obtain ⟨ad542,e542,hx542_0,hx542_1⟩:=at_T26 HR0.out x5_1 p542 q542;cases e542;replace p542:=eq_true p542;replace q542:=eq_true q542;have p543:0≤(x5_1:Int):=zd;have q543:x5_1<(l0.length:Int):=zd;obtain ⟨ad543,e543,hx543_0,hx543_1⟩:=at_T26 HR0.out x5_1 p543 q543;obtain rfl:ad542=ad543:=(by injection e543);replace p543:=eq_true p543;replace q543:=eq_true q543;go_wp2;go_ret;exact ⟨zt,zz⟩
    ·rw [if_neg c5] at H;have c5b0:(((rd_T26 l0 x5_1).f0) == x1_1)=false:=beq_eq_false_iff_ne.mpr c5;have c5b1:(((rd_T26 l0 x5_1).f0) != x1_1)=true:=bne_iff_ne.mpr c5;obtain rfl:=Option.some.inj H;have p542:0≤(x5_1:Int):=zd;have q542:x5_1<(l0.length:Int):=zd;obtain ⟨ad542,e542,hx542_0,hx542_1⟩:=at_T26 HR0.out x5_1 p542 q542;cases e542;replace p542:=eq_true p542;replace q542:=eq_true q542;go_wp2;go_ret;exact ⟨zt,zz⟩
   ·rw [if_neg c3] at H;have c3b0:decide (x5_1<(l0.length:Int))=false:=decide_eq_false c3;clear c3;obtain rfl:=Option.some.inj H;go_wp2;go_ret;exact ⟨zt,zz⟩
end Go.Proofs.Ytojkepidkmkmpaa.PFnExactTwoSolutions
end
section
namespace Go.Proofs.YtojkepidkmkmpaaRed
open Go.RowKit Go.Proofs.YtojkepidkmkmpaaW.PrintWords
def Rd {α : Type} (d : Kd α) (W : World) (lo hi : Nat) (A : Option Addr) (l : List α) : Prop := hi ≤ W.heap.size ∧ Kd.F d W (fun k => lo ≤ k ∧ k < hi) A l.length l
section
variable {α : Type} {d : Kd α} {W W' : World} {lo hi e base : Nat} {A : Option Addr} {l : List α} {v : Value} {ok : Nat → Prop}
theorem Rd.now (h : Rd d W lo hi A l) : d.C W A l.length l := h.2 W fun _ _ _ => rfl
theorem Rd.below (h : Rd d W lo hi A l) (hb : Below W.heap.size W W') : Rd d W' lo hi A l :=
 ⟨Nat.le_trans h.1 hb.size, fun W'' hW => h.2 W'' fun k hk hlt => (hW k hk (Nat.lt_of_lt_of_le hlt hb.size)).trans (hb.block k hlt)⟩
theorem Rd.kept (h : Rd d W lo hi A l) {S : Nat → Prop} (hk : Kept W W' S) (hs : ∀ k, lo ≤ k → k < hi → ¬ S k) : Rd d W' lo hi A l :=
 ⟨Nat.le_trans h.1 hk.1, fun W'' hW => h.2 W'' fun k hok hlt => (hW k hok (Nat.lt_of_lt_of_le hlt hk.1)).trans (hk.2 k hlt (hs k hok.1 hok.2))⟩
theorem Rd.ofN (h : Kd.N d e W base (fun k => base ≤ k) v l) : ∃ A c, v = .slice A l.length c ∧ l.length ≤ c ∧ Rd d W base W.heap.size A l := by
 obtain ⟨A, c, rfl⟩ := Kd.N_slice h
 have h2 := Kd.N_reads' h
 refine ⟨A, c, rfl, h2.2.1, Nat.le_refl _, ?_⟩
 exact Kd.N_F (Kd.N_bound h)
theorem Rd.ofR (h : d.R e W base ok v l) : ∃ A c, v = .slice A l.length c ∧ l.length ≤ c ∧ Rd d W base W.heap.size A l :=
 Rd.ofN (Kd.N_mono (Kd.R_N (Kd.R_bound h)) fun _ hk => hk.2.1)
theorem Rd.ofS (h : Kd.S d e W base ok v l) : ∃ A c, v = .slice A l.length c ∧ l.length ≤ c ∧ Rd d W base W.heap.size A l := Rd.ofR (Kd.S_R h)
end
def Wr (W : World) (lo hi : Nat) (v : Value) (X : List (List Int)) : Prop := hi ≤ W.heap.size ∧ Kd.S (Kd.slice 3 (Kd.int .i64)) 23 W lo (fun k => lo ≤ k ∧ k < hi) v X
section
variable {W W' : World} {lo hi base : Nat} {v : Value} {X : List (List Int)} {ok : Nat → Prop}
theorem Wr.ofS (h : Kd.S (Kd.slice 3 (Kd.int .i64)) 23 W base ok v X) : Wr W base W.heap.size v X := ⟨Nat.le_refl _, Kd.S_mono (Kd.S_bound h) fun _ hk => ⟨hk.2.1, hk.2.2.1⟩⟩
theorem Wr.form (h : Wr W lo hi v X) : ∃ A c, v = .slice A X.length c ∧ X.length ≤ c := by
 obtain ⟨A, c, e, hl, _⟩ := Kd.R_reads (Kd.S_R h.2)
 exact ⟨A, c, e, hl⟩
theorem Wr.now {A : Option Addr} {n c : Nat} (h : Wr W lo hi (.slice A n c) X) : (Kd.slice 3 (Kd.int .i64)).C W A X.length X := (Kd.R_reads' (Kd.S_R h.2)).2.2
theorem Wr.below (h : Wr W lo hi v X) (hb : Below W.heap.size W W') : Wr W' lo hi v X := ⟨Nat.le_trans h.1 hb.size, Kd.S_below h.2 hb⟩
theorem Wr.kept (h : Wr W lo hi v X) {S : Nat → Prop} (hk : Kept W W' S) (hs : ∀ k, lo ≤ k → k < hi → ¬ S k) : Wr W' lo hi v X := ⟨Nat.le_trans h.1 hk.1, Kd.S_kept h.2 hk fun k hk => hs k hk.1 hk.2⟩
end
abbrev Tr := Option Addr × Nat × Nat
def tv (t : Tr) : Value := .slice t.1 t.2.1 t.2.2
def TK : Kd Tr := Kd.scalar tv (fun _ => rfl)
structure RowsV (w : World) (base : Nat) (ts : List Tr) (xs : List (List Int)) : Prop where
 len : ts.length = xs.length
 row : ∀ (i : Nat) (t : Tr) (x : List Int), ts[i]? = some t → xs[i]? = some x → Kd.R (Kd.int .i64) 3 w base (fun k => some k = (tv t).ownBlock) (tv t) x
def ApartV (ts : List Tr) : Prop := ∀ (i j : Nat) (t u : Tr) (k : Nat), i ≠ j → ts[i]? = some t → ts[j]? = some u → (tv t).ownBlock = some k → (tv u).ownBlock ≠ some k
theorem of_S2 {w : World} {base : Nat} {ok : Nat → Prop} {v : Value} {m : List (List Int)} (h : Kd.S (Kd.slice 3 (Kd.int .i64)) 23 w base ok v m) :
  ∃ ts, TK.R 23 w base (fun k => some k = v.ownBlock) v ts ∧ RowsV w base ts m ∧ ApartV ts ∧ (∀ k, v.ownBlock = some k → ok k) ∧ ∀ t ∈ ts, ∀ k, (tv t).ownBlock = some k → ok k := by
 obtain ⟨f, h0, inner, ho, hr⟩ := h
 rw [List.length_zipIdx] at ho
 have key : ∀ j, j < m.length → ∃ t : Tr, inner[j]? = some (tv t) ∧ (∀ k, (tv t).ownBlock = some k → ok k ∧ f k = j) ∧ ∀ x, m[j]? = some x → Kd.R (Kd.int .i64) 3 w base (fun k => some k = (tv t).ownBlock) (tv t) x := by
  intro j hj
  have hx := List.getElem?_eq_getElem hj
  have hz : m.zipIdx[j]? = some (m[j], j) := Kd.zip_at hx
  obtain ⟨v', e, hR⟩ := hr.2 j (m[j], j) hz
  obtain ⟨A, c, hv⟩ := Kd.R_slice hR
  have hv' : v' = tv (A, m[j].length, c) := hv
  refine ⟨(A, m[j].length, c), ?_, ?_, fun x hx' => ?_⟩
  ·have h1 : ((inner.drop (j * 1)).take 1)[0]? = some v' := by
    have : (inner.drop (j * (Kd.tag f (Kd.slice 3 (Kd.int .i64))).sz)).take (Kd.tag f (Kd.slice 3 (Kd.int .i64))).sz = [v'] := e
    show ((inner.drop (j * (Kd.tag f (Kd.slice 3 (Kd.int .i64))).sz)).take (Kd.tag f (Kd.slice 3 (Kd.int .i64))).sz)[0]? = some v'
    rw [this];rfl
   rw [List.getElem?_take, if_pos (by omega), List.getElem?_drop, Nat.mul_one, Nat.add_zero] at h1
   rw [h1, hv']
  ·intro k hk
   have := hR.1 k (by rw [hv'];exact hk)
   exact ⟨this.1.1, this.2⟩
  ·rw [hx] at hx'
   cases hx'
   rw [hv'] at hR
   exact Kd.R_tight rfl hR
 obtain ⟨ts, hl, hP⟩ := list_of _ _ key
 refine ⟨ts, ?_, ⟨hl, fun i t x ht hx => (hP i t ht).2.2 x hx⟩, fun i j t u k hij ht hu hk hk2 => ?_, h0, fun t ht k hk => ?_⟩
 ·have hin : inner = encs tv ts := by
   apply List.ext_getElem?
   intro j
   unfold encs
   rw [List.getElem?_map]
   rcases Nat.lt_or_ge j ts.length with hj|hj
   ·rw [List.getElem?_eq_getElem hj, (hP j _ (List.getElem?_eq_getElem hj)).1]
    rfl
   ·rw [List.getElem?_eq_none hj, List.getElem?_eq_none]
    ·rfl
    ·have h1 : inner.length = m.length * 1 := ho.1
     omega
  rw [← hl, hin] at ho
  exact Kd.R_of_own (enc := tv) (h1 := fun _ => rfl) ho fun k hk => hk.symm
 ·have h1 := ((hP i t ht).2.1 k hk).2
  have h2 := ((hP j u hu).2.1 k hk2).2
  omega
 ·obtain ⟨i, hi⟩ := List.getElem?_of_mem ht
  exact ((hP i t hi).2.1 k hk).1
theorem to_S2 {w : World} {base : Nat} {ok : Nat → Prop} {v : Value} {ts : List Tr} {m : List (List Int)} (h : TK.R 23 w base (fun k => some k = v.ownBlock) v ts) (hr : RowsV w base ts m) (hn : ApartV ts) (hv : ∀ k, v.ownBlock = some k → ok k) (ht : ∀ t ∈ ts, ∀ k, (tv t).ownBlock = some k → ok k) : Kd.S (Kd.slice 3 (Kd.int .i64)) 23 w base ok v m := by
 have ho := Kd.own_of_R h
 refine ⟨fun k => ts.findIdx (fun t => decide ((tv t).ownBlock = some k)), hv, encs tv ts, ?_, ?_, ?_⟩
 ·rw [List.length_zipIdx, ← hr.len];exact ho
 ·rw [List.length_zipIdx]
  show (encs tv ts).length = m.length * 1
  simp [encs, hr.len]
 ·rintro j ⟨x, i⟩ hx
  have hj : j < m.length := by
   have := (List.getElem?_eq_some_iff.1 hx).1
   rwa [List.length_zipIdx] at this
  have hx2 : m.zipIdx[j]? = some (m[j], j) := Kd.zip_at (List.getElem?_eq_getElem hj)
  rw [hx2] at hx
  cases hx
  have hjp : j < ts.length := by rw [hr.len];exact hj
  have hrow := hr.row j _ _ (List.getElem?_eq_getElem hjp) (List.getElem?_eq_getElem hj)
  refine ⟨tv ts[j], ?_, ?_⟩
  ·show (List.drop (j * 1) (encs tv ts)).take 1 = [tv ts[j]]
   rw [Nat.mul_one]
   unfold encs
   rw [List.drop_eq_getElem_cons (by simpa using hjp)]
   simp
  ·refine Kd.R_mono hrow fun k hk => ⟨⟨ht _ (List.getElem_mem hjp) k hk.symm, fun e => ?_⟩, ?_⟩
   ·obtain ⟨c1, h1⟩ := Kd.R_typed hrow k hk.symm
    obtain ⟨c2, h2⟩ := Kd.R_typed h k e.symm
    rw [h1] at h2
    injection h2 with h2
    injection h2 with _ h2
    exact absurd h2 (by decide)
   ·refine (List.findIdx_eq hjp).2 ⟨by simpa using hk.symm, fun i hi => ?_⟩
    have h1 := hn j i ts[j] (ts[i]'(by omega)) k (by omega) (List.getElem?_eq_getElem hjp) (List.getElem?_eq_getElem (by omega)) hk.symm
    simpa using h1
theorem RowsV.step {w w' : World} {base : Nat} {ts : List Tr} {xs ys : List (List Int)} (hxy : xs.length = ys.length) {m : Nat} (h : RowsV w base ts (mix xs ys m)) (hn : ApartV ts) {t : Tr} {y : List Int}
  (hp : ts[m]? = some t) (hy : ys[m]? = some y) (hk : Kept w w' (fun k => some k = (tv t).ownBlock)) (hr : Kd.R (Kd.int .i64) 3 w' base (fun k => some k = (tv t).ownBlock) (tv t) y) : RowsV w' base ts (mix xs ys (m + 1)) := by
 have hl := h.len
 rw [mix_len _ _ _ hxy] at hl
 refine ⟨by rw [mix_len _ _ _ hxy];exact hl, fun i q x hq hx => ?_⟩
 rw [mix_get _ _ _ _ hxy] at hx
 by_cases e : i = m
 ·subst e
  rw [if_pos (by omega), hy] at hx
  rw [hp] at hq
  cases hq;cases hx
  exact hr
 ·have hx2 : (mix xs ys m)[i]? = some x := by
   rw [mix_get _ _ _ _ hxy]
   by_cases hi : i < m
   ·rw [if_pos hi];rw [if_pos (by omega)] at hx;exact hx
   ·rw [if_neg hi];rw [if_neg (by omega)] at hx;exact hx
  refine Kd.R_kept (h.row i q x hq hx2) hk fun k hk2 hk3 => ?_
  exact hn i m q t k e hq hp hk2.symm hk3.symm
theorem TK_at {w : World} {base N : Nat} {A : Option Addr} {c : Nat} {ok : Nat → Prop} {ts : List Tr} (h : TK.R 23 w base ok (.slice A N c) ts) (i : Nat) (h1 : i < N) :
  ∃ ad t, A = some ad ∧ ts[i]? = some t ∧ w.cell? (ad.add i) = some (tv t) := by
 obtain ⟨hN, _, hC⟩ := Kd.R_reads' h
 subst hN
 obtain ⟨ad, e, hc⟩ := ReadsOf.at_ (Kd.reads_of_C (enc := tv) (d := ((none, 0, 0) : Tr)) (h1 := fun _ => rfl) hC) (i : Int) (by omega) (by omega)
 rw [Int.toNat_natCast] at hc
 refine ⟨ad, ts[i], e, List.getElem?_eq_getElem h1, ?_⟩
 rw [hc]
 unfold rdOf
 rw [Int.toNat_natCast, List.getD_eq_getElem?_getD, List.getElem?_eq_getElem h1]
 rfl
theorem Rd.ofC {α : Type} {d : Kd α} {W : World} {A : Option Addr} {l : List α} (hd : Kd.Heap d) (h : d.C W A l.length l) : Rd d W 0 W.heap.size A l :=
 ⟨Nat.le_refl _, Kd.F_mono (Kd.C_F hd h) fun _ hk => ⟨Nat.zero_le _, hk⟩⟩
def WR {α : Type} (d : Kd α) (e : Nat) (W : World) (b lo hi : Nat) (v : Value) (l : List α) : Prop := hi ≤ W.heap.size ∧ d.R e W b (fun k => lo ≤ k ∧ k < hi) v l
section
variable {α β : Type} {d : Kd α} {d' : Kd β} {W W' : World} {b lo hi e e' base lo' hi' b' : Nat} {v v' : Value} {l l' : List α} {m : List β} {ok : Nat → Prop}
theorem WR.ofR (h : d.R e W base ok v l) (hb : b ≤ base) : WR d e W b base W.heap.size v l := ⟨Nat.le_refl _, Kd.R_lower (Kd.R_mono (Kd.R_bound h) fun _ hk => ⟨hk.2.1, hk.2.2.1⟩) hb⟩
theorem WR.form (h : WR d e W b lo hi v l) : ∃ A c, v = .slice A l.length c ∧ l.length ≤ c := by
 obtain ⟨A, c, e, hl, _⟩ := Kd.R_reads h.2
 exact ⟨A, c, e, hl⟩
theorem WR.now {A : Option Addr} {n c : Nat} (h : WR d e W b lo hi (.slice A n c) l) : d.C W A l.length l := by
 have h1 := Kd.R_reads' h.2
 have h2 := h1.2.2
 rw [← h1.1] at h2 ⊢
 exact h2
theorem WR.len {A : Option Addr} {n c : Nat} (h : WR d e W b lo hi (.slice A n c) l) : n = l.length := (Kd.R_reads' h.2).1
theorem WR.below (h : WR d e W b lo hi v l) (hb : Below W.heap.size W W') : WR d e W' b lo hi v l := ⟨Nat.le_trans h.1 hb.size, Kd.R_below h.2 hb⟩
theorem WR.kept (h : WR d e W b lo hi v l) {S : Nat → Prop} (hk : Kept W W' S) (hs : ∀ k, lo ≤ k → k < hi → ¬ S k) : WR d e W' b lo hi v l := ⟨Nat.le_trans h.1 hk.1, Kd.R_kept h.2 hk fun k hk => hs k hk.1 hk.2⟩
theorem WR.keptNe (h : WR d e W b lo hi v l) (hE : d.E = []) (hk : Kept W W' (fun k => some k = v'.ownBlock)) (hne : ∀ k, v.ownBlock = some k → v'.ownBlock ≠ some k) : WR d e W' b lo hi v l :=
 ⟨Nat.le_trans h.1 hk.1, Kd.R_reok hE (Kd.R_kept (Kd.R_tight hE h.2) hk fun k h1 h2 => hne k h1.symm h2.symm) h.2.1⟩
theorem WR.drewN (h : WR d e W b lo hi v l) (n : Nat) : WR d e (W.drewN n) b lo hi v l := ⟨h.1, Kd.R_drewN h.2 n⟩
theorem WR.tight (h : WR d e W b lo hi v l) (hE : d.E = []) : d.R e W b (fun k => some k = v.ownBlock) v l := Kd.R_tight hE h.2
theorem WR.marked (h : WR d e W b lo hi v l) (hE : d.E = []) {S : Nat → Prop} (hk : Kept W W' S) (hR : d.R e W' b ok v l') : WR d e W' b lo hi v l' := ⟨Nat.le_trans h.1 hk.1, Kd.R_reok hE hR h.2.1⟩
theorem WR.ne (h : d.R e W b (fun k => some k ≠ v'.ownBlock) v l) : ∀ k, v.ownBlock = some k → v'.ownBlock ≠ some k := fun k h1 h2 => h.1 k h1 h2.symm
end
theorem Wr.drewN {W : World} {lo hi : Nat} {v : Value} {X : List (List Int)} (h : Wr W lo hi v X) (n : Nat) : Wr (W.drewN n) lo hi v X := ⟨h.1, Kd.S_drewN h.2 n⟩
end Go.Proofs.YtojkepidkmkmpaaRed
end
section
namespace Go.Proofs.Ytojkepidkmkmpaa.PFnExactTwoSolutions
open Go.Proofs.YtojkepidkmkmpaaW.PrintWords.Aside0 renaming mk → aM
open List renaming setIfInBounds_toArray → qa, set_cons_zero → qz, set_cons_succ → qs
open Bool renaming true → tt, false → ff
open Option renaming bind_eq_some_iff → bE

open Go.RowKit Go.Proofs.YtojkepidkmkmpaaW.PrintWords Go.Proofs.YtojkepidkmkmpaaW.PrintLast Go.Proofs.YtojkepidkmkmpaaW.PrintMore
attribute [local go_sem] max2_int min2_int max_two min_two max_three min_three max_four min_four
set_option linter.unusedVariables false
set_option linter.unusedSimpArgs false
def laws_markIntSS.f (k : Nat) : List (List Int) → Int → Option (Int × List (List Int))
 | [], a => some (a, [])
 | x :: l, a => (laws_markIntS.f k x a).bind fun p => (laws_markIntSS.f k l p.1).bind fun q => some (q.1, p.2 :: q.2)
theorem laws_markIntSS.len (k : Nat) : ∀ (l : List (List Int)) (a r1 : Int) (r2 : List (List Int)), laws_markIntSS.f k l a = some (r1, r2) → l.length = r2.length
 | [], a, r1, r2, h => by
  have := Option.some.inj h
  cases this
  rfl
 | x :: l, a, r1, r2, h => by
  unfold laws_markIntSS.f at h
  obtain ⟨p, hp, h⟩ := Option.bind_eq_some_iff.1 h
  obtain ⟨q, hq, h⟩ := Option.bind_eq_some_iff.1 h
  have := Option.some.inj h
  cases this
  have := laws_markIntSS.len k l _ q.1 q.2 hq
  simp [this]
open YtojkepidkmkmpaaRed in
set_option maxHeartbeats 8000000 in
set_option maxRecDepth 100000 in
theorem laws_markIntSS.calls (k : Nat) (lo hi : Nat) (v : Value) (X : List (List Int)) (a1 : Int) (r1 : Int) (r2 : List (List Int)) (w0 w : World) (hB : Below w0.heap.size w0 w) (hlo : w0.heap.size ≤ lo) (hS : Wr w lo hi v X) (h : laws_markIntSS.f k X a1 = some (r1, r2)) :
  Calls Try.prog 34 #[v, .int .i64 a1] w fun e w' => e = .returned (.int .i64 r1) ∧ Wr w' lo hi v r2 ∧ Below w0.heap.size w0 w' ∧ Kept w w' (fun k_ => lo ≤ k_ ∧ k_ < hi) := by
 obtain ⟨ts, hsp, hra, hap, hov, hot⟩ := of_S2 hS.2
 obtain ⟨A, c, e0, hc⟩ := hS.form
 subst e0
 have hl : X.length ≤ 9223372036854775807 := Kd.C_max hS.now
 have HHI := Aside0.mk hS.1
 have HSP := Aside0.mk hsp
 have HRA0 := Aside0.mk hra
 have HAP := Aside0.mk hap
 have HOV := Aside0.mk hov
 have HOT := Aside0.mk hot
 have HLEN := Aside0.mk (laws_markIntSS.len k X a1 r1 r2 h)
 have HLO := Aside0.mk hlo
 have H := Aside0.mk h
 have HB := Aside0.mk hB
 clear hS hsp hra hap hov hot hlo h hB hc
 go_enter Try.func34, Try.ntmps34
 go_wp2
 go_loopg [1, 5] (X.length + 1) (fun kq v1 v5 w' => ∃ (i : Nat) (a : Int), v5 = .int .i64 (i : Int) ∧ v1 = .int .i64 a ∧ Aside0 (i ≤ X.length ∧ kq + i = X.length + 1) ∧ Aside0 (laws_markIntSS.f k (X.drop i) a = some (r1, r2.drop i)) ∧ Aside0 (RowsV w' lo ts (mix X r2 i)) ∧ Aside0 (Kept w w' (fun k_ => lo ≤ k_ ∧ k_ < hi ∧ ∃ t ∈ ts, (tv t).ownBlock = some k_)) ∧ Aside0 (Below w0.heap.size w0 w'))
 case atStart => exact ⟨0, a1, by first|rfl|(simp;done), rfl, ⟨by omega, by omega⟩, ⟨by simpa using H.out⟩, ⟨by rw [mix_zero];exact HRA0.out⟩, ⟨Kept.refl _ _⟩, HB⟩
 case round =>
  clear HB H
  obtain ⟨i, a, rfl, rfl, HI, HF, HRA, HK, HB⟩ := hrel
  have hspr := HSP.out
  have HSPr : Aside0 (TK.R 23 wr lo (fun k_ => some k_ = (Value.slice A X.length c).ownBlock) (.slice A X.length c) ts) := ⟨Kd.R_kept HSP.out HK.out fun k_ hk_ ⟨_, _, t_, ht_, e_⟩ => by
   obtain ⟨j_, hj_⟩ := List.getElem?_of_mem ht_
   have hjl : j_ < X.length := by
    rw [← HRA0.out.len]
    exact (List.getElem?_eq_some_iff.1 hj_).1
   have hrow := HRA0.out.row j_ t_ _ hj_ (List.getElem?_eq_getElem hjl)
   obtain ⟨c1, h1⟩ := Kd.R_typed hrow k_ e_
   obtain ⟨c2, h2⟩ := Kd.R_typed HSP.out k_ hk_.symm
   rw [h1] at h2
   injection h2 with h2
   injection h2 with _ h2
   exact absurd h2 (by decide)⟩
  clear hspr
  by_cases hi_ : i < X.length
  ·have hi2 : i < 9223372036854775807 := by omega
   obtain ⟨ad, t, eA, ht, hcell⟩ := TK_at HSPr.out i hi_
   subst eA
   obtain ⟨x, hx⟩ : ∃ x, X[i]? = some x := ⟨_, List.getElem?_eq_getElem hi_⟩
   have hxd : X.drop i = x :: X.drop (i + 1) := by
    rw [List.drop_eq_getElem_cons hi_]
    rw [List.getElem?_eq_getElem hi_] at hx
    rw [Option.some.inj hx]
   have hf := HF.out
   rw [hxd] at hf
   unfold laws_markIntSS.f at hf
   obtain ⟨p, hp, hf⟩ := Option.bind_eq_some_iff.1 hf
   obtain ⟨q, hq, hf⟩ := Option.bind_eq_some_iff.1 hf
   have hf2 := Option.some.inj hf
   have hr1 : q.1 = r1 := congrArg Prod.fst hf2
   have hr2 : p.2 :: q.2 = r2.drop i := congrArg Prod.snd hf2
   have hil : i < r2.length := by have := HLEN.out;omega
   rw [List.drop_eq_getElem_cons hil] at hr2
   injection hr2 with hy hys
   have hy2 : r2[i]? = some p.2 := by rw [List.getElem?_eq_getElem hil, hy]
   have hxm : (mix X r2 i)[i]? = some x := by rw [mix_get _ _ _ _ HLEN.out, if_neg (by omega)];exact hx
   have hrow := HRA.out.row i t x ht hxm
   obtain ⟨y1, y2⟩ := p
   have AP := Aside0.mk hp
   have HN : Aside0 (laws_markIntSS.f k (X.drop (i + 1)) y1 = some (r1, r2.drop (i + 1))) := ⟨by rw [hq];congr 1;exact Prod.ext hr1 hys⟩
   have HROW := Aside0.mk hrow
   have HT := Aside0.mk ht
   have HY := Aside0.mk hy2
   have HLB : Aside0 (Kd.R (Kd.int .i64) 3 wr w0.heap.size (fun k_ => some k_ = (tv t).ownBlock) (tv t) x) := ⟨Kd.R_lower hrow HLO.out⟩
   have HBS := Aside0.mk (Kd.R_base hrow)
   clear hx hxd hf hp hq hf2 hr1 hy hys hy2 hxm hrow ht
   go_wp2_with fail
   refine (laws_markIntS.calls k (fun k_ => some k_ = (tv t).ownBlock) (tv t) x a y1 y2 w0 _ HB.out HLB.out AP.out).mono ?_
   rintro e W2 ⟨rfl, hR2, hB2, hK2⟩
   have HB2 := Aside0.mk hB2
   have HK2 := Aside0.mk (Kept.then_ HK.out hK2 fun k_ hs_ => Or.inl (by
    have hm := List.mem_of_getElem? HT.out
    have h1 := HOT.out t hm k_ hs_.symm
    exact ⟨h1.1, h1.2, t, hm, hs_.symm⟩))
   have HRA2 := Aside0.mk (RowsV.step HLEN.out HRA.out HAP.out HT.out HY.out hK2 (by
    obtain ⟨h0, inner, ho, hr⟩ := hR2
    exact ⟨fun k_ hk_ => hk_.symm, inner, ⟨ho.1, by
     rcases ho.2 with h|⟨g, cap, cur, hv, hb, rest⟩
     ·exact .inl h
     ·exact .inr ⟨g, cap, cur, hv, HBS.out g (by rw [hv];rfl), rest⟩⟩, hr⟩))
   clear hR2 hB2 hK2
   go_wp2
   go_roundg (X.length - i)
   case measure => have := HI.out;omega
   case rel => exact ⟨i + 1, y1, by first|go_num|rfl|(simp;done)|(simp [*];done), rfl, ⟨by omega, by omega⟩, HN, HRA2, HK2, HB2⟩
  ·have hie : i = X.length := by have := HI.out;omega
   have HE : Aside0 (RowsV wr lo ts r2 ∧ a = r1) := ⟨by
    have h1 := HRA.out
    have h2 := HF.out
    rw [hie, mix_all _ _ HLEN.out] at h1
    rw [hie, List.drop_length, HLEN.out, List.drop_length] at h2
    exact ⟨h1, congrArg Prod.fst (Option.some.inj h2)⟩⟩
   clear hie
   go_wp2
   go_ret
   refine ⟨by rw [HE.out.2];rfl, ⟨Nat.le_trans HHI.out HK.out.1, ?_⟩, HB.out, HK.out.mono fun k_ hk_ => ⟨hk_.1, hk_.2.1⟩⟩
   have h1 := to_S2 HSPr.out HE.out.1 HAP.out HOV.out HOT.out
   rw [HLEN.out] at h1 ⊢
   exact h1
def laws_FnExactTwoSolutions.f (k : Nat) (l0 : List (List Int)) (l1 : List Int) (l2 : List Int) : Option Bool :=
 if (l1.length : Int) > 1048576 then some true else (if (l2.length : Int) > 1048576 then some true else ((laws_szIntSS.f k l0 1048576).bind fun s_ => if s_ < 0 then some true else ((laws_toIntSS.f k l0).bind fun y0 => ((laws_toIntS.f k l1).bind fun z0 => ((laws_toIntS.f k l2).bind fun t0 => ((spec_TwoSolutions.f k y0 z0 t0).bind fun p_ => match p_ with | (w0, w1, w2) => ((laws_toIntSS.f k l0).bind fun x0 => ((laws_toIntS.f k l1).bind fun x1 => ((laws_toIntS.f k l2).bind fun x2 => ((impl_TwoSolutions.f k x0 x1 x2).bind fun p_ => match p_ with | (g0, g1, g2) => ((laws_eqRatioS.f k g0 w0).bind fun b_ => if b_ = true then ((laws_eqRatioS.f k g1 w1).bind fun b_ => if b_ = true then (if w2 = g2 then ((laws_toIntSS.f k l0).bind fun y1 => ((laws_eqIntSS.f k x0 y1).bind fun b_ => if b_ = true then ((laws_toIntS.f k l1).bind fun z1 => ((laws_eqIntS.f k x1 z1).bind fun b_ => if b_ = true then ((laws_toIntS.f k l2).bind fun t1 => ((laws_eqIntS.f k x2 t1).bind fun b_ => if b_ = true then ((laws_markIntSS.f k x0 1).bind fun p_ => match p_ with | (k1, xm) => ((laws_markIntS.f k x1 k1).bind fun p_ => match p_ with | (k2, xn) => ((laws_markIntS.f k x2 k2).bind fun p_ => match p_ with | (k3, xo) => (if k3 < 0 then none else ((laws_eqRatioS.f k g0 w0).bind fun b_ => if b_ = true then ((laws_eqRatioS.f k g1 w1).bind fun b_ => if b_ = true then ((laws_markRatioS.f k g0 1).bind fun p_ => match p_ with | (m1, gm) => ((laws_markRatioS.f k g1 m1).bind fun p_ => match p_ with | (m2, gn) => ((laws_heldRatioS.f k gm 1).bind fun q1 => (if q1 < 0 then none else ((laws_heldRatioS.f k gn q1).bind fun q2 => (if q2 < 0 then none else (if m2 = q2 then ((laws_toIntSS.f k l0).bind fun y2 => ((laws_toIntS.f k l1).bind fun z2 => ((laws_toIntS.f k l2).bind fun t2 => ((impl_TwoSolutions.f k y2 z2 t2).bind fun p_ => match p_ with | (h0, h1, h2) => ((laws_eqRatioS.f k h0 w0).bind fun b_ => if b_ = true then ((laws_eqRatioS.f k h1 w1).bind fun b_ => if b_ = true then (if w2 = h2 then ((laws_heldRatioS.f k gm 1).bind fun q3 => (if q3 < 0 then none else ((laws_heldRatioS.f k gn q3).bind fun q4 => (if q4 < 0 then none else (if m2 = q4 then (some true) else none))))) else none) else none) else none))))) else none))))))) else none) else none))))) else none)) else none)) else none)) else none) else none) else none)))))))))))
open YtojkepidkmkmpaaRed in
set_option maxHeartbeats 8000000 in
set_option maxRecDepth 100000 in
theorem laws_FnExactTwoSolutions.calls (k : Nat) (A0 : Option Addr) (c0 : Nat) (l0 : List (List Int)) (A1 : Option Addr) (c1 : Nat) (l1 : List Int) (A2 : Option Addr) (c2 : Nat) (l2 : List Int) (r : Bool) (w : World) (hr0 : Kd.C (Kd.slice 3 (Kd.int .i64)) w A0 l0.length l0) (hc0 : l0.length ≤ c0) (hr1 : Kd.C (Kd.int .i64) w A1 l1.length l1) (hc1 : l1.length ≤ c1) (hr2 : Kd.C (Kd.int .i64) w A2 l2.length l2) (hc2 : l2.length ≤ c2) (h : laws_FnExactTwoSolutions.f k l0 l1 l2 = some r) :
 Calls Try.prog 5 #[.slice A0 l0.length c0, .slice A1 l1.length c1, .slice A2 l2.length c2] w fun e w' => e = .returned (.bool r) ∧ Below w.heap.size w w' := by
 have HL0:Aside0 (Rd (Kd.slice 3 (Kd.int .i64)) w 0 w.heap.size A0 l0):=⟨Rd.ofC (by first|exact Kd.heap_int _|exact Kd.heap_slice _ (Kd.heap_int _)) hr0⟩;have HC0:=aM hc0;clear hr0 hc0;have HL1:Aside0 (Rd (Kd.int .i64) w 0 w.heap.size A1 l1):=⟨Rd.ofC (by first|exact Kd.heap_int _|exact Kd.heap_slice _ (Kd.heap_int _)) hr1⟩;have HC1:=aM hc1;clear hr1 hc1;have HL2:Aside0 (Rd (Kd.int .i64) w 0 w.heap.size A2 l2):=⟨Rd.ofC (by first|exact Kd.heap_int _|exact Kd.heap_slice _ (Kd.heap_int _)) hr2⟩;have HC2:=aM hc2;clear hr2 hc2;have HB:=aM (Below.refl w.heap.size w);unfold laws_FnExactTwoSolutions.f at h;by_cases c1:(l1.length:Int) > 1048576
 ·rw [if_pos c1] at h;have c1b0:decide (1048576<(l1.length:Int))=true:=decide_eq_true c1;have c1b1:decide (1048576<l1.length)=true:=decide_eq_true (by omega);obtain rfl:=Option.some.inj h;go_enter Try.func5,Try.ntmps5;go_wp2;go_ret;exact ⟨rfl,(zb HB.out)⟩
 rw [if_neg c1] at h;have c1b0:decide (1048576<(l1.length:Int))=false:=decide_eq_false c1;have c1b1:decide (1048576<l1.length)=false:=decide_eq_false (by omega);clear c1;by_cases c2:(l2.length:Int) > 1048576
 ·rw [if_pos c2] at h;have c2b0:decide (1048576<(l2.length:Int))=true:=decide_eq_true c2;have c2b1:decide (1048576<l2.length)=true:=decide_eq_true (by omega);obtain rfl:=Option.some.inj h;go_enter Try.func5,Try.ntmps5;go_wp2;go_ret;exact ⟨rfl,(zb HB.out)⟩
 rw [if_neg c2] at h;have c2b0:decide (1048576<(l2.length:Int))=false:=decide_eq_false c2;have c2b1:decide (1048576<l2.length)=false:=decide_eq_false (by omega);clear c2;replace h:=bE.1 h;obtain ⟨s3_,AS3,h⟩:=h;have HS3:=aM AS3;clear AS3;by_cases c3:s3_<0
 ·rw [if_pos c3] at h;have c3b0:decide (s3_<0)=true:=decide_eq_true c3;obtain rfl:=Option.some.inj h;go_enter Try.func5,Try.ntmps5;go_wp2_with fail;refine (laws_szIntSS.calls k _ _ l0 1048576 s3_ _ (by repeat (first|(with_reducible exact HL0.out.now)|(with_reducible refine Kd.C_alloc ?_ _)|(with_reducible refine Kd.C_drewN ?_ _)|(with_reducible refine Kd.C_drew ?_)|exact HL0.out.now)) HC0.out HS3.out).mono ?_;rintro e w' ⟨rfl,⟨nd,rfl⟩⟩;go_wp2;go_ret;exact ⟨rfl,(zb HB.out)⟩
 rw [if_neg c3] at h;have c3b0:decide (s3_<0)=false:=decide_eq_false c3;clear c3;replace h:=bE.1 h;obtain ⟨y0,HF40,h⟩:=h;have HF4:=aM HF40;clear HF40;replace h:=bE.1 h;obtain ⟨z0,HF50,h⟩:=h;have HF5:=aM HF50;clear HF50;replace h:=bE.1 h;obtain ⟨t0,HF60,h⟩:=h;have HF6:=aM HF60;clear HF60;replace h:=bE.1 h;obtain ⟨⟨w0,w1,w2⟩,HF70,h⟩:=h;dsimp only at h;have HF7:=aM HF70;clear HF70;replace h:=bE.1 h;obtain ⟨x0,HF80,h⟩:=h;have HF8:=aM HF80;clear HF80;replace h:=bE.1 h;obtain ⟨x1,HF90,h⟩:=h;have HF9:=aM HF90;clear HF90;replace h:=bE.1 h;obtain ⟨x2,HF100,h⟩:=h;have HF10:=aM HF100;clear HF100;replace h:=bE.1 h;obtain ⟨⟨g0,g1,g2⟩,HF110,h⟩:=h;dsimp only at h;have HF11:=aM HF110;clear HF110;replace h:=bE.1 h;obtain ⟨b12_,HF120,h⟩:=h;have hb12_:b12_=true:=Decidable.byContradiction fun hh_=>by rw [if_neg hh_] at h;cases h
 rw [if_pos hb12_] at h;subst hb12_;have HF12:=aM HF120;clear HF120;replace h:=bE.1 h;obtain ⟨b13_,HF130,h⟩:=h;have hb13_:b13_=true:=Decidable.byContradiction fun hh_=>by rw [if_neg hh_] at h;cases h
 rw [if_pos hb13_] at h;subst hb13_;have HF13:=aM HF130;clear HF130;have hb14_:w2=g2:=Decidable.byContradiction fun hh_=>by rw [if_neg hh_] at h;cases h
 rw [if_pos hb14_] at h;subst hb14_;replace h:=bE.1 h;obtain ⟨y1,HF150,h⟩:=h;have HF15:=aM HF150;clear HF150;replace h:=bE.1 h;obtain ⟨b16_,HF160,h⟩:=h;have hb16_:b16_=true:=Decidable.byContradiction fun hh_=>by rw [if_neg hh_] at h;cases h
 rw [if_pos hb16_] at h;subst hb16_;have HF16:=aM HF160;clear HF160;replace h:=bE.1 h;obtain ⟨z1,HF170,h⟩:=h;have HF17:=aM HF170;clear HF170;replace h:=bE.1 h;obtain ⟨b18_,HF180,h⟩:=h;have hb18_:b18_=true:=Decidable.byContradiction fun hh_=>by rw [if_neg hh_] at h;cases h
 rw [if_pos hb18_] at h;subst hb18_;have HF18:=aM HF180;clear HF180;replace h:=bE.1 h;obtain ⟨t1,HF190,h⟩:=h;have HF19:=aM HF190;clear HF190;replace h:=bE.1 h;obtain ⟨b20_,HF200,h⟩:=h;have hb20_:b20_=true:=Decidable.byContradiction fun hh_=>by rw [if_neg hh_] at h;cases h
 rw [if_pos hb20_] at h;subst hb20_;have HF20:=aM HF200;clear HF200;replace h:=bE.1 h;obtain ⟨⟨k1,xm⟩,HF210,h⟩:=h;dsimp only at h;have HF21:=aM HF210;clear HF210;replace h:=bE.1 h;obtain ⟨⟨k2,xn⟩,HF220,h⟩:=h;dsimp only at h;have HF22:=aM HF220;clear HF220;replace h:=bE.1 h;obtain ⟨⟨k3,xo⟩,HF230,h⟩:=h;dsimp only at h;have HF23:=aM HF230;clear HF230;by_cases c24:k3<0
 ·rw [if_pos c24] at h;cases h
 rw [if_neg c24] at h;have c24b0:decide (k3<0)=false:=decide_eq_false c24;clear c24;replace h:=bE.1 h;obtain ⟨b25_,HF250,h⟩:=h;have hb25_:b25_=true:=Decidable.byContradiction fun hh_=>by rw [if_neg hh_] at h;cases h
 rw [if_pos hb25_] at h;subst hb25_;have HF25:=aM HF250;clear HF250;replace h:=bE.1 h;obtain ⟨b26_,HF260,h⟩:=h;have hb26_:b26_=true:=Decidable.byContradiction fun hh_=>by rw [if_neg hh_] at h;cases h
 rw [if_pos hb26_] at h;subst hb26_;have HF26:=aM HF260;clear HF260;replace h:=bE.1 h;obtain ⟨⟨m1,gm⟩,HF270,h⟩:=h;dsimp only at h;have HF27:=aM HF270;clear HF270;replace h:=bE.1 h;obtain ⟨⟨m2,gn⟩,HF280,h⟩:=h;dsimp only at h;have HF28:=aM HF280;clear HF280;replace h:=bE.1 h;obtain ⟨q1,HF290,h⟩:=h;have HF29:=aM HF290;clear HF290;by_cases c30:q1<0
 ·rw [if_pos c30] at h;cases h
 rw [if_neg c30] at h;have c30b0:decide (q1<0)=false:=decide_eq_false c30;clear c30;replace h:=bE.1 h;obtain ⟨q2,HF310,h⟩:=h;have HF31:=aM HF310;clear HF310;by_cases c32:q2<0
 ·rw [if_pos c32] at h;cases h
 rw [if_neg c32] at h;have c32b0:decide (q2<0)=false:=decide_eq_false c32;clear c32;have hb33_:m2=q2:=Decidable.byContradiction fun hh_=>by rw [if_neg hh_] at h;cases h
 rw [if_pos hb33_] at h;subst hb33_;replace h:=bE.1 h;obtain ⟨y2,HF340,h⟩:=h;have HF34:=aM HF340;clear HF340;replace h:=bE.1 h;obtain ⟨z2,HF350,h⟩:=h;have HF35:=aM HF350;clear HF350;replace h:=bE.1 h;obtain ⟨t2,HF360,h⟩:=h;have HF36:=aM HF360;clear HF360;replace h:=bE.1 h;obtain ⟨⟨h0,h1,h2⟩,HF370,h⟩:=h;dsimp only at h;have HF37:=aM HF370;clear HF370;replace h:=bE.1 h;obtain ⟨b38_,HF380,h⟩:=h;have hb38_:b38_=true:=Decidable.byContradiction fun hh_=>by rw [if_neg hh_] at h;cases h
 rw [if_pos hb38_] at h;subst hb38_;have HF38:=aM HF380;clear HF380;replace h:=bE.1 h;obtain ⟨b39_,HF390,h⟩:=h;have hb39_:b39_=true:=Decidable.byContradiction fun hh_=>by rw [if_neg hh_] at h;cases h
 rw [if_pos hb39_] at h;subst hb39_;have HF39:=aM HF390;clear HF390;have hb40_:w2=h2:=Decidable.byContradiction fun hh_=>by rw [if_neg hh_] at h;cases h
 rw [if_pos hb40_] at h;subst hb40_;replace h:=bE.1 h;obtain ⟨q3,HF410,h⟩:=h;have HF41:=aM HF410;clear HF410;by_cases c42:q3<0
 ·rw [if_pos c42] at h;cases h
 rw [if_neg c42] at h;have c42b0:decide (q3<0)=false:=decide_eq_false c42;clear c42;replace h:=bE.1 h;obtain ⟨q4,HF430,h⟩:=h;have HF43:=aM HF430;clear HF430;by_cases c44:q4<0
 ·rw [if_pos c44] at h;cases h
 rw [if_neg c44] at h;have c44b0:decide (q4<0)=false:=decide_eq_false c44;clear c44;have hb45_:m2=q4:=Decidable.byContradiction fun hh_=>by rw [if_neg hh_] at h;cases h
 rw [if_pos hb45_] at h;subst hb45_;obtain rfl:=Option.some.inj h;clear h;have HSZ:=aM (Nat.le_refl w.heap.size);go_enter Try.func5,Try.ntmps5;go_wp2_with fail;refine (laws_szIntSS.calls k _ _ l0 1048576 s3_ _ (by repeat (first|(with_reducible exact HL0.out.now)|(with_reducible refine Kd.C_alloc ?_ _)|(with_reducible refine Kd.C_drewN ?_ _)|(with_reducible refine Kd.C_drew ?_)|exact HL0.out.now)) HC0.out HS3.out).mono ?_;rintro e w' ⟨rfl,⟨nd,rfl⟩⟩;go_wp2_with fail;refine (laws_toIntSS.calls k _ _ l0 y0 _ (by repeat (first|(with_reducible exact HL0.out.now)|(with_reducible refine Kd.C_alloc ?_ _)|(with_reducible refine Kd.C_drewN ?_ _)|(with_reducible refine Kd.C_drew ?_)|exact HL0.out.now)) HC0.out HF4.out).mono ?_;rintro e W1 ⟨v_,rfl,ho,hb⟩;have hb1_:Below w.heap.size w W1:=below_step (by repeat (first|(with_reducible exact Below.refl _ _)|apply below_alloc|apply pw_below_drewN|apply below_drew1)) hb;replace HL0:=aM (HL0.out.below hb1_);replace HL1:=aM (HL1.out.below hb1_);replace HL2:=aM (HL2.out.below hb1_);replace HB:=aM (below_step HB.out hb1_);replace HSZ:=aM (And.intro HSZ.out hb1_.size);have Hy0:Aside0 (Wr W1 w.heap.size W1.heap.size v_ y0):=⟨Wr.ofS ho⟩;obtain ⟨A_y0,c_y0,e_y0,hc_y0⟩:=Hy0.out.form;subst e_y0;have HC_y0:=aM hc_y0;clear hc_y0 hb hb1_ ho;go_wp2_with fail;refine (laws_toIntS.calls k _ _ l1 z0 _ (by repeat (first|(with_reducible exact HL1.out.now)|(with_reducible refine Kd.C_alloc ?_ _)|(with_reducible refine Kd.C_drewN ?_ _)|(with_reducible refine Kd.C_drew ?_)|exact HL1.out.now)) HC1.out HF5.out).mono ?_;rintro e W2 ⟨v_,rfl,ho,hb⟩;have hb1_:Below W1.heap.size W1 W2:=below_step (by repeat (first|(with_reducible exact Below.refl _ _)|apply below_alloc|apply pw_below_drewN|apply below_drew1)) hb;replace HL0:=aM (HL0.out.below hb1_);replace HL1:=aM (HL1.out.below hb1_);replace HL2:=aM (HL2.out.below hb1_);replace Hy0:=aM (Hy0.out.below hb1_);replace HB:=aM (below_step HB.out hb1_);replace HSZ:=aM (And.intro HSZ.out hb1_.size);obtain ⟨A_z0,c_z0,e_z0,hc_z0,hr_z0⟩:=Rd.ofR ho;subst e_z0;have Hz0:Aside0 (Rd (Kd.int .i64) W2 W1.heap.size W2.heap.size A_z0 z0):=⟨hr_z0⟩;clear hr_z0;have HC_z0:=aM hc_z0;clear hc_z0 hb hb1_ ho;go_wp2_with fail;refine (laws_toIntS.calls k _ _ l2 t0 _ (by repeat (first|(with_reducible exact HL2.out.now)|(with_reducible refine Kd.C_alloc ?_ _)|(with_reducible refine Kd.C_drewN ?_ _)|(with_reducible refine Kd.C_drew ?_)|exact HL2.out.now)) HC2.out HF6.out).mono ?_;rintro e W3 ⟨v_,rfl,ho,hb⟩;have hb1_:Below W2.heap.size W2 W3:=below_step (by repeat (first|(with_reducible exact Below.refl _ _)|apply below_alloc|apply pw_below_drewN|apply below_drew1)) hb;replace HL0:=aM (HL0.out.below hb1_);replace HL1:=aM (HL1.out.below hb1_);replace HL2:=aM (HL2.out.below hb1_);replace Hy0:=aM (Hy0.out.below hb1_);replace Hz0:=aM (Hz0.out.below hb1_);replace HB:=aM (below_step HB.out hb1_);replace HSZ:=aM (And.intro HSZ.out hb1_.size);obtain ⟨A_t0,c_t0,e_t0,hc_t0,hr_t0⟩:=Rd.ofR ho;subst e_t0;have Ht0:Aside0 (Rd (Kd.int .i64) W3 W2.heap.size W3.heap.size A_t0 t0):=⟨hr_t0⟩;clear hr_t0;have HC_t0:=aM hc_t0;clear hc_t0 hb hb1_ ho;go_wp2_with fail;refine (spec_TwoSolutions.calls k _ _ y0 _ _ z0 _ _ t0 w0 w1 w2 _ (by repeat (first|(with_reducible exact Hy0.out.now)|(with_reducible refine Kd.C_alloc ?_ _)|(with_reducible refine Kd.C_drewN ?_ _)|(with_reducible refine Kd.C_drew ?_)|exact Hy0.out.now)) HC_y0.out (by repeat (first|(with_reducible exact Hz0.out.now)|(with_reducible refine Kd.C_alloc ?_ _)|(with_reducible refine Kd.C_drewN ?_ _)|(with_reducible refine Kd.C_drew ?_)|exact Hz0.out.now)) HC_z0.out (by repeat (first|(with_reducible exact Ht0.out.now)|(with_reducible refine Kd.C_alloc ?_ _)|(with_reducible refine Kd.C_drewN ?_ _)|(with_reducible refine Kd.C_drew ?_)|exact Ht0.out.now)) HC_t0.out HF7.out).mono ?_;rintro e W4 ⟨v_,v2_,rfl,ho,ho2,hb⟩;have hb1_:Below W3.heap.size W3 W4:=below_step (by repeat (first|(with_reducible exact Below.refl _ _)|apply below_alloc|apply pw_below_drewN|apply below_drew1)) hb;replace HL0:=aM (HL0.out.below hb1_);replace HL1:=aM (HL1.out.below hb1_);replace HL2:=aM (HL2.out.below hb1_);replace Hy0:=aM (Hy0.out.below hb1_);replace Hz0:=aM (Hz0.out.below hb1_);replace Ht0:=aM (Ht0.out.below hb1_);replace HB:=aM (below_step HB.out hb1_);replace HSZ:=aM (And.intro HSZ.out hb1_.size);obtain ⟨A_w0,c_w0,e_w0,hc_w0,hr_w0⟩:=Rd.ofR ho;subst e_w0;have Hw0:Aside0 (Rd k26 W4 W3.heap.size W4.heap.size A_w0 w0):=⟨hr_w0⟩;clear hr_w0;have HC_w0:=aM hc_w0;clear hc_w0;obtain ⟨A_w1,c_w1,e_w1,hc_w1,hr_w1⟩:=Rd.ofR ho2;subst e_w1;have Hw1:Aside0 (Rd k26 W4 W3.heap.size W4.heap.size A_w1 w1):=⟨hr_w1⟩;clear hr_w1;have HC_w1:=aM hc_w1;clear hc_w1 hb hb1_ ho ho2;go_wp2_with fail;refine (laws_toIntSS.calls k _ _ l0 x0 _ (by repeat (first|(with_reducible exact HL0.out.now)|(with_reducible refine Kd.C_alloc ?_ _)|(with_reducible refine Kd.C_drewN ?_ _)|(with_reducible refine Kd.C_drew ?_)|exact HL0.out.now)) HC0.out HF8.out).mono ?_;rintro e W5 ⟨v_,rfl,ho,hb⟩;have hb1_:Below W4.heap.size W4 W5:=below_step (by repeat (first|(with_reducible exact Below.refl _ _)|apply below_alloc|apply pw_below_drewN|apply below_drew1)) hb;replace HL0:=aM (HL0.out.below hb1_);replace HL1:=aM (HL1.out.below hb1_);replace HL2:=aM (HL2.out.below hb1_);replace Hy0:=aM (Hy0.out.below hb1_);replace Hz0:=aM (Hz0.out.below hb1_);replace Ht0:=aM (Ht0.out.below hb1_);replace Hw0:=aM (Hw0.out.below hb1_);replace Hw1:=aM (Hw1.out.below hb1_);replace HB:=aM (below_step HB.out hb1_);replace HSZ:=aM (And.intro HSZ.out hb1_.size);have Hx0:Aside0 (Wr W5 W4.heap.size W5.heap.size v_ x0):=⟨Wr.ofS ho⟩;obtain ⟨A_x0,c_x0,e_x0,hc_x0⟩:=Hx0.out.form;subst e_x0;have HC_x0:=aM hc_x0;clear hc_x0 hb hb1_ ho;go_wp2_with fail;refine (laws_toIntS.calls k _ _ l1 x1 _ (by repeat (first|(with_reducible exact HL1.out.now)|(with_reducible refine Kd.C_alloc ?_ _)|(with_reducible refine Kd.C_drewN ?_ _)|(with_reducible refine Kd.C_drew ?_)|exact HL1.out.now)) HC1.out HF9.out).mono ?_;rintro e W6 ⟨v_,rfl,ho,hb⟩;have hb1_:Below W5.heap.size W5 W6:=below_step (by repeat (first|(with_reducible exact Below.refl _ _)|apply below_alloc|apply pw_below_drewN|apply below_drew1)) hb;replace HL0:=aM (HL0.out.below hb1_);replace HL1:=aM (HL1.out.below hb1_);replace HL2:=aM (HL2.out.below hb1_);replace Hy0:=aM (Hy0.out.below hb1_);replace Hz0:=aM (Hz0.out.below hb1_);replace Ht0:=aM (Ht0.out.below hb1_);replace Hw0:=aM (Hw0.out.below hb1_);replace Hw1:=aM (Hw1.out.below hb1_);replace Hx0:=aM (Hx0.out.below hb1_);replace HB:=aM (below_step HB.out hb1_);replace HSZ:=aM (And.intro HSZ.out hb1_.size);have Hx1:Aside0 (WR (Kd.int .i64) 3 W6 w.heap.size W5.heap.size W6.heap.size v_ x1):=⟨WR.ofR (base:=W5.heap.size) ho (by have:=HSZ.out;omega)⟩;obtain ⟨A_x1,c_x1,e_x1,hc_x1⟩:=Hx1.out.form;subst e_x1;have HC_x1:=aM hc_x1;clear hc_x1 hb hb1_ ho;go_wp2_with fail;refine (laws_toIntS.calls k _ _ l2 x2 _ (by repeat (first|(with_reducible exact HL2.out.now)|(with_reducible refine Kd.C_alloc ?_ _)|(with_reducible refine Kd.C_drewN ?_ _)|(with_reducible refine Kd.C_drew ?_)|exact HL2.out.now)) HC2.out HF10.out).mono ?_;rintro e W7 ⟨v_,rfl,ho,hb⟩;have hb1_:Below W6.heap.size W6 W7:=below_step (by repeat (first|(with_reducible exact Below.refl _ _)|apply below_alloc|apply pw_below_drewN|apply below_drew1)) hb;replace HL0:=aM (HL0.out.below hb1_);replace HL1:=aM (HL1.out.below hb1_);replace HL2:=aM (HL2.out.below hb1_);replace Hy0:=aM (Hy0.out.below hb1_);replace Hz0:=aM (Hz0.out.below hb1_);replace Ht0:=aM (Ht0.out.below hb1_);replace Hw0:=aM (Hw0.out.below hb1_);replace Hw1:=aM (Hw1.out.below hb1_);replace Hx0:=aM (Hx0.out.below hb1_);replace Hx1:=aM (Hx1.out.below hb1_);replace HB:=aM (below_step HB.out hb1_);replace HSZ:=aM (And.intro HSZ.out hb1_.size);have Hx2:Aside0 (WR (Kd.int .i64) 3 W7 w.heap.size W6.heap.size W7.heap.size v_ x2):=⟨WR.ofR (base:=W6.heap.size) ho (by have:=HSZ.out;omega)⟩;obtain ⟨A_x2,c_x2,e_x2,hc_x2⟩:=Hx2.out.form;subst e_x2;have HC_x2:=aM hc_x2;clear hc_x2 hb hb1_ ho;go_wp2_with fail;refine (impl_TwoSolutions.calls k _ _ x0 _ _ x1 _ _ x2 g0 g1 w2 _ (by repeat (first|(with_reducible exact Hx0.out.now)|(with_reducible refine Kd.C_alloc ?_ _)|(with_reducible refine Kd.C_drewN ?_ _)|(with_reducible refine Kd.C_drew ?_)|exact Hx0.out.now)) HC_x0.out (by repeat (first|(with_reducible exact Hx1.out.now)|(with_reducible refine Kd.C_alloc ?_ _)|(with_reducible refine Kd.C_drewN ?_ _)|(with_reducible refine Kd.C_drew ?_)|exact Hx1.out.now)) HC_x1.out (by repeat (first|(with_reducible exact Hx2.out.now)|(with_reducible refine Kd.C_alloc ?_ _)|(with_reducible refine Kd.C_drewN ?_ _)|(with_reducible refine Kd.C_drew ?_)|exact Hx2.out.now)) HC_x2.out HF11.out).mono ?_;rintro e W8 ⟨v_,v2_,rfl,ho,ho2,hb⟩;have hb1_:Below W7.heap.size W7 W8:=below_step (by repeat (first|(with_reducible exact Below.refl _ _)|apply below_alloc|apply pw_below_drewN|apply below_drew1)) hb;replace HL0:=aM (HL0.out.below hb1_);replace HL1:=aM (HL1.out.below hb1_);replace HL2:=aM (HL2.out.below hb1_);replace Hy0:=aM (Hy0.out.below hb1_);replace Hz0:=aM (Hz0.out.below hb1_);replace Ht0:=aM (Ht0.out.below hb1_);replace Hw0:=aM (Hw0.out.below hb1_);replace Hw1:=aM (Hw1.out.below hb1_);replace Hx0:=aM (Hx0.out.below hb1_);replace Hx1:=aM (Hx1.out.below hb1_);replace Hx2:=aM (Hx2.out.below hb1_);replace HB:=aM (below_step HB.out hb1_);replace HSZ:=aM (And.intro HSZ.out hb1_.size);have Hg0:Aside0 (WR k26 26 W8 w.heap.size W7.heap.size W8.heap.size v_ g0):=⟨WR.ofR (base:=W7.heap.size) ho (by have:=HSZ.out;omega)⟩;have HNE_g0_g1:=aM (WR.ne ho);obtain ⟨A_g0,c_g0,e_g0,hc_g0⟩:=Hg0.out.form;subst e_g0;have HC_g0:=aM hc_g0;clear hc_g0;have Hg1:Aside0 (WR k26 26 W8 w.heap.size W7.heap.size W8.heap.size v2_ g1):=⟨WR.ofR (base:=W7.heap.size) ho2 (by have:=HSZ.out;omega)⟩;obtain ⟨A_g1,c_g1,e_g1,hc_g1⟩:=Hg1.out.form;subst e_g1;have HC_g1:=aM hc_g1;clear hc_g1 hb hb1_ ho ho2;go_wp2_with fail;refine (laws_eqRatioS.calls k _ _ g0 _ _ w0 true _ (by repeat (first|(with_reducible exact Hg0.out.now)|(with_reducible refine Kd.C_alloc ?_ _)|(with_reducible refine Kd.C_drewN ?_ _)|(with_reducible refine Kd.C_drew ?_)|exact Hg0.out.now)) HC_g0.out (by repeat (first|(with_reducible exact Hw0.out.now)|(with_reducible refine Kd.C_alloc ?_ _)|(with_reducible refine Kd.C_drewN ?_ _)|(with_reducible refine Kd.C_drew ?_)|exact Hw0.out.now)) HC_w0.out HF12.out).mono ?_;rintro e W9 ⟨rfl,hb⟩;have hb1_:Below W8.heap.size W8 W9:=below_step (by repeat (first|(with_reducible exact Below.refl _ _)|apply below_alloc|apply pw_below_drewN|apply below_drew1)) hb;replace HL0:=aM (HL0.out.below hb1_);replace HL1:=aM (HL1.out.below hb1_);replace HL2:=aM (HL2.out.below hb1_);replace Hy0:=aM (Hy0.out.below hb1_);replace Hz0:=aM (Hz0.out.below hb1_);replace Ht0:=aM (Ht0.out.below hb1_);replace Hw0:=aM (Hw0.out.below hb1_);replace Hw1:=aM (Hw1.out.below hb1_);replace Hx0:=aM (Hx0.out.below hb1_);replace Hx1:=aM (Hx1.out.below hb1_);replace Hx2:=aM (Hx2.out.below hb1_);replace Hg0:=aM (Hg0.out.below hb1_);replace Hg1:=aM (Hg1.out.below hb1_);replace HB:=aM (below_step HB.out hb1_);replace HSZ:=aM (And.intro HSZ.out hb1_.size);clear hb hb1_;go_wp2_with fail;refine (laws_eqRatioS.calls k _ _ g1 _ _ w1 true _ (by repeat (first|(with_reducible exact Hg1.out.now)|(with_reducible refine Kd.C_alloc ?_ _)|(with_reducible refine Kd.C_drewN ?_ _)|(with_reducible refine Kd.C_drew ?_)|exact Hg1.out.now)) HC_g1.out (by repeat (first|(with_reducible exact Hw1.out.now)|(with_reducible refine Kd.C_alloc ?_ _)|(with_reducible refine Kd.C_drewN ?_ _)|(with_reducible refine Kd.C_drew ?_)|exact Hw1.out.now)) HC_w1.out HF13.out).mono ?_;rintro e W10 ⟨rfl,hb⟩;have hb1_:Below W9.heap.size W9 W10:=below_step (by repeat (first|(with_reducible exact Below.refl _ _)|apply below_alloc|apply pw_below_drewN|apply below_drew1)) hb;replace HL0:=aM (HL0.out.below hb1_);replace HL1:=aM (HL1.out.below hb1_);replace HL2:=aM (HL2.out.below hb1_);replace Hy0:=aM (Hy0.out.below hb1_);replace Hz0:=aM (Hz0.out.below hb1_);replace Ht0:=aM (Ht0.out.below hb1_);replace Hw0:=aM (Hw0.out.below hb1_);replace Hw1:=aM (Hw1.out.below hb1_);replace Hx0:=aM (Hx0.out.below hb1_);replace Hx1:=aM (Hx1.out.below hb1_);replace Hx2:=aM (Hx2.out.below hb1_);replace Hg0:=aM (Hg0.out.below hb1_);replace Hg1:=aM (Hg1.out.below hb1_);replace HB:=aM (below_step HB.out hb1_);replace HSZ:=aM (And.intro HSZ.out hb1_.size);clear hb hb1_;go_wp2_with fail;refine (laws_toIntSS.calls k _ _ l0 y1 _ (by repeat (first|(with_reducible exact HL0.out.now)|(with_reducible refine Kd.C_alloc ?_ _)|(with_reducible refine Kd.C_drewN ?_ _)|(with_reducible refine Kd.C_drew ?_)|exact HL0.out.now)) HC0.out HF15.out).mono ?_;rintro e W11 ⟨v_,rfl,ho,hb⟩;have hb1_:Below W10.heap.size W10 W11:=below_step (by repeat (first|(with_reducible exact Below.refl _ _)|apply below_alloc|apply pw_below_drewN|apply below_drew1)) hb;replace HL0:=aM (HL0.out.below hb1_);replace HL1:=aM (HL1.out.below hb1_);replace HL2:=aM (HL2.out.below hb1_);replace Hy0:=aM (Hy0.out.below hb1_);replace Hz0:=aM (Hz0.out.below hb1_);replace Ht0:=aM (Ht0.out.below hb1_);replace Hw0:=aM (Hw0.out.below hb1_);replace Hw1:=aM (Hw1.out.below hb1_);replace Hx0:=aM (Hx0.out.below hb1_);replace Hx1:=aM (Hx1.out.below hb1_);replace Hx2:=aM (Hx2.out.below hb1_);replace Hg0:=aM (Hg0.out.below hb1_);replace Hg1:=aM (Hg1.out.below hb1_);replace HB:=aM (below_step HB.out hb1_);replace HSZ:=aM (And.intro HSZ.out hb1_.size);have Hy1:Aside0 (Wr W11 W10.heap.size W11.heap.size v_ y1):=⟨Wr.ofS ho⟩;obtain ⟨A_y1,c_y1,e_y1,hc_y1⟩:=Hy1.out.form;subst e_y1;have HC_y1:=aM hc_y1;clear hc_y1 hb hb1_ ho;go_wp2_with fail;refine (laws_eqIntSS.calls k _ _ x0 _ _ y1 true _ (by repeat (first|(with_reducible exact Hx0.out.now)|(with_reducible refine Kd.C_alloc ?_ _)|(with_reducible refine Kd.C_drewN ?_ _)|(with_reducible refine Kd.C_drew ?_)|exact Hx0.out.now)) HC_x0.out (by repeat (first|(with_reducible exact Hy1.out.now)|(with_reducible refine Kd.C_alloc ?_ _)|(with_reducible refine Kd.C_drewN ?_ _)|(with_reducible refine Kd.C_drew ?_)|exact Hy1.out.now)) HC_y1.out HF16.out).mono ?_;rintro e w' ⟨rfl,⟨nd,rfl⟩⟩;go_wp2_with fail;refine (laws_toIntS.calls k _ _ l1 z1 _ (by repeat (first|(with_reducible exact HL1.out.now)|(with_reducible refine Kd.C_alloc ?_ _)|(with_reducible refine Kd.C_drewN ?_ _)|(with_reducible refine Kd.C_drew ?_)|exact HL1.out.now)) HC1.out HF17.out).mono ?_;rintro e W12 ⟨v_,rfl,ho,hb⟩;have hb1_:Below W11.heap.size W11 W12:=below_step (by repeat (first|(with_reducible exact Below.refl _ _)|apply below_alloc|apply pw_below_drewN|apply below_drew1)) hb;replace HL0:=aM (HL0.out.below hb1_);replace HL1:=aM (HL1.out.below hb1_);replace HL2:=aM (HL2.out.below hb1_);replace Hy0:=aM (Hy0.out.below hb1_);replace Hz0:=aM (Hz0.out.below hb1_);replace Ht0:=aM (Ht0.out.below hb1_);replace Hw0:=aM (Hw0.out.below hb1_);replace Hw1:=aM (Hw1.out.below hb1_);replace Hx0:=aM (Hx0.out.below hb1_);replace Hx1:=aM (Hx1.out.below hb1_);replace Hx2:=aM (Hx2.out.below hb1_);replace Hg0:=aM (Hg0.out.below hb1_);replace Hg1:=aM (Hg1.out.below hb1_);replace Hy1:=aM (Hy1.out.below hb1_);replace HB:=aM (below_step HB.out hb1_);replace HSZ:=aM (And.intro HSZ.out hb1_.size);obtain ⟨A_z1,c_z1,e_z1,hc_z1,hr_z1⟩:=Rd.ofR ho;subst e_z1;have Hz1:Aside0 (Rd (Kd.int .i64) W12 W11.heap.size W12.heap.size A_z1 z1):=⟨hr_z1⟩;clear hr_z1;have HC_z1:=aM hc_z1;clear hc_z1 hb hb1_ ho;go_wp2_with fail;refine (laws_eqIntS.calls k _ _ x1 _ _ z1 true _ (by repeat (first|(with_reducible exact Hx1.out.now)|(with_reducible refine Kd.C_alloc ?_ _)|(with_reducible refine Kd.C_drewN ?_ _)|(with_reducible refine Kd.C_drew ?_)|exact Hx1.out.now)) HC_x1.out (by repeat (first|(with_reducible exact Hz1.out.now)|(with_reducible refine Kd.C_alloc ?_ _)|(with_reducible refine Kd.C_drewN ?_ _)|(with_reducible refine Kd.C_drew ?_)|exact Hz1.out.now)) HC_z1.out HF18.out).mono ?_;rintro e w' ⟨rfl,⟨nd,rfl⟩⟩;go_wp2_with fail;refine (laws_toIntS.calls k _ _ l2 t1 _ (by repeat (first|(with_reducible exact HL2.out.now)|(with_reducible refine Kd.C_alloc ?_ _)|(with_reducible refine Kd.C_drewN ?_ _)|(with_reducible refine Kd.C_drew ?_)|exact HL2.out.now)) HC2.out HF19.out).mono ?_;rintro e W13 ⟨v_,rfl,ho,hb⟩;have hb1_:Below W12.heap.size W12 W13:=below_step (by repeat (first|(with_reducible exact Below.refl _ _)|apply below_alloc|apply pw_below_drewN|apply below_drew1)) hb;replace HL0:=aM (HL0.out.below hb1_);replace HL1:=aM (HL1.out.below hb1_);replace HL2:=aM (HL2.out.below hb1_);replace Hy0:=aM (Hy0.out.below hb1_);replace Hz0:=aM (Hz0.out.below hb1_);replace Ht0:=aM (Ht0.out.below hb1_);replace Hw0:=aM (Hw0.out.below hb1_);replace Hw1:=aM (Hw1.out.below hb1_);replace Hx0:=aM (Hx0.out.below hb1_);replace Hx1:=aM (Hx1.out.below hb1_);replace Hx2:=aM (Hx2.out.below hb1_);replace Hg0:=aM (Hg0.out.below hb1_);replace Hg1:=aM (Hg1.out.below hb1_);replace Hy1:=aM (Hy1.out.below hb1_);replace Hz1:=aM (Hz1.out.below hb1_);replace HB:=aM (below_step HB.out hb1_);replace HSZ:=aM (And.intro HSZ.out hb1_.size);obtain ⟨A_t1,c_t1,e_t1,hc_t1,hr_t1⟩:=Rd.ofR ho;subst e_t1;have Ht1:Aside0 (Rd (Kd.int .i64) W13 W12.heap.size W13.heap.size A_t1 t1):=⟨hr_t1⟩;clear hr_t1;have HC_t1:=aM hc_t1;clear hc_t1 hb hb1_ ho;go_wp2_with fail;refine (laws_eqIntS.calls k _ _ x2 _ _ t1 true _ (by repeat (first|(with_reducible exact Hx2.out.now)|(with_reducible refine Kd.C_alloc ?_ _)|(with_reducible refine Kd.C_drewN ?_ _)|(with_reducible refine Kd.C_drew ?_)|exact Hx2.out.now)) HC_x2.out (by repeat (first|(with_reducible exact Ht1.out.now)|(with_reducible refine Kd.C_alloc ?_ _)|(with_reducible refine Kd.C_drewN ?_ _)|(with_reducible refine Kd.C_drew ?_)|exact Ht1.out.now)) HC_t1.out HF20.out).mono ?_;rintro e w' ⟨rfl,⟨nd,rfl⟩⟩;go_wp2_with fail;refine (laws_markIntSS.calls k W4.heap.size W5.heap.size _ x0 1 k1 xm w _ (zb HB.out) (by have:=HSZ.out;omega) (by repeat (first|(with_reducible exact Hx0.out)|(with_reducible refine Wr.drewN ?_ _))) HF21.out).mono ?_;rintro e W14 ⟨rfl,hR,hb,hk0⟩;have hk_:Kept W13 W14 (fun k_=>W4.heap.size≤k_∧k_<W5.heap.size):=hk0;clear hk0;replace HL0:=aM (HL0.out.kept hk_ (by intro k_ h1_ h2_ h3_;have:=HSZ.out;omega));replace HL1:=aM (HL1.out.kept hk_ (by intro k_ h1_ h2_ h3_;have:=HSZ.out;omega));replace HL2:=aM (HL2.out.kept hk_ (by intro k_ h1_ h2_ h3_;have:=HSZ.out;omega));replace Hy0:=aM (Hy0.out.kept hk_ (by intro k_ h1_ h2_ h3_;have:=HSZ.out;omega));replace Hz0:=aM (Hz0.out.kept hk_ (by intro k_ h1_ h2_ h3_;have:=HSZ.out;omega));replace Ht0:=aM (Ht0.out.kept hk_ (by intro k_ h1_ h2_ h3_;have:=HSZ.out;omega));replace Hw0:=aM (Hw0.out.kept hk_ (by intro k_ h1_ h2_ h3_;have:=HSZ.out;omega));replace Hw1:=aM (Hw1.out.kept hk_ (by intro k_ h1_ h2_ h3_;have:=HSZ.out;omega));replace Hx1:=aM (Hx1.out.kept hk_ (by intro k_ h1_ h2_ h3_;have:=HSZ.out;omega));replace Hx2:=aM (Hx2.out.kept hk_ (by intro k_ h1_ h2_ h3_;have:=HSZ.out;omega));replace Hg0:=aM (Hg0.out.kept hk_ (by intro k_ h1_ h2_ h3_;have:=HSZ.out;omega));replace Hg1:=aM (Hg1.out.kept hk_ (by intro k_ h1_ h2_ h3_;have:=HSZ.out;omega));replace Hy1:=aM (Hy1.out.kept hk_ (by intro k_ h1_ h2_ h3_;have:=HSZ.out;omega));replace Hz1:=aM (Hz1.out.kept hk_ (by intro k_ h1_ h2_ h3_;have:=HSZ.out;omega));replace Ht1:=aM (Ht1.out.kept hk_ (by intro k_ h1_ h2_ h3_;have:=HSZ.out;omega));replace Hx0:Aside0 (Wr W14 W4.heap.size W5.heap.size _ xm):=⟨hR⟩;replace HSZ:=aM (And.intro HSZ.out hk_.1);clear HB;have HB:=aM hb;have hl_xm:x0.length=xm.length:=(laws_markIntSS.len k _ _ _ _ HF21.out);have HC_xm:Aside0 (xm.length≤c_x0):=⟨by rw [← hl_xm];exact HC_x0.out⟩;rw [hl_xm] at Hx0 ⊢;clear hb hk_ hR;go_wp2_with fail;refine (laws_markIntS.calls k (fun k_=>some k_=(.slice A_x1 x1.length c_x1:Value).ownBlock) _ x1 k1 k2 xn w _ (zb HB.out) (by repeat (first|(with_reducible exact Hx1.out.tight rfl)|(with_reducible refine Kd.R_drewN ?_ _))) HF22.out).mono ?_;rintro e W15 ⟨rfl,hR,hb,hk0⟩;have hk_:Kept W14 W15 (fun k_=>some k_=(.slice A_x1 x1.length c_x1:Value).ownBlock):=hk0;clear hk0;replace HL0:=aM (HL0.out.kept hk_ (by intro k_ h1_ h2_ h3_;have h4_:=Hx1.out.2.1 k_ h3_.symm;have:=HSZ.out;omega));replace HL1:=aM (HL1.out.kept hk_ (by intro k_ h1_ h2_ h3_;have h4_:=Hx1.out.2.1 k_ h3_.symm;have:=HSZ.out;omega));replace HL2:=aM (HL2.out.kept hk_ (by intro k_ h1_ h2_ h3_;have h4_:=Hx1.out.2.1 k_ h3_.symm;have:=HSZ.out;omega));replace Hy0:=aM (Hy0.out.kept hk_ (by intro k_ h1_ h2_ h3_;have h4_:=Hx1.out.2.1 k_ h3_.symm;have:=HSZ.out;omega));replace Hz0:=aM (Hz0.out.kept hk_ (by intro k_ h1_ h2_ h3_;have h4_:=Hx1.out.2.1 k_ h3_.symm;have:=HSZ.out;omega));replace Ht0:=aM (Ht0.out.kept hk_ (by intro k_ h1_ h2_ h3_;have h4_:=Hx1.out.2.1 k_ h3_.symm;have:=HSZ.out;omega));replace Hw0:=aM (Hw0.out.kept hk_ (by intro k_ h1_ h2_ h3_;have h4_:=Hx1.out.2.1 k_ h3_.symm;have:=HSZ.out;omega));replace Hw1:=aM (Hw1.out.kept hk_ (by intro k_ h1_ h2_ h3_;have h4_:=Hx1.out.2.1 k_ h3_.symm;have:=HSZ.out;omega));replace Hx2:=aM (Hx2.out.kept hk_ (by intro k_ h1_ h2_ h3_;have h4_:=Hx1.out.2.1 k_ h3_.symm;have:=HSZ.out;omega));replace Hg0:=aM (Hg0.out.kept hk_ (by intro k_ h1_ h2_ h3_;have h4_:=Hx1.out.2.1 k_ h3_.symm;have:=HSZ.out;omega));replace Hg1:=aM (Hg1.out.kept hk_ (by intro k_ h1_ h2_ h3_;have h4_:=Hx1.out.2.1 k_ h3_.symm;have:=HSZ.out;omega));replace Hy1:=aM (Hy1.out.kept hk_ (by intro k_ h1_ h2_ h3_;have h4_:=Hx1.out.2.1 k_ h3_.symm;have:=HSZ.out;omega));replace Hz1:=aM (Hz1.out.kept hk_ (by intro k_ h1_ h2_ h3_;have h4_:=Hx1.out.2.1 k_ h3_.symm;have:=HSZ.out;omega));replace Ht1:=aM (Ht1.out.kept hk_ (by intro k_ h1_ h2_ h3_;have h4_:=Hx1.out.2.1 k_ h3_.symm;have:=HSZ.out;omega));replace Hx0:=aM (Hx0.out.kept hk_ (by intro k_ h1_ h2_ h3_;have h4_:=Hx1.out.2.1 k_ h3_.symm;have:=HSZ.out;omega));replace Hx1:=aM (WR.marked Hx1.out rfl hk_ hR);replace HSZ:=aM (And.intro HSZ.out hk_.1);clear HB;have HB:=aM hb;have hl_xn:x1.length=xn.length:=Hx1.out.len;have HC_xn:Aside0 (xn.length≤c_x1):=⟨by rw [← hl_xn];exact HC_x1.out⟩;rw [hl_xn] at Hx1 ⊢;clear hb hk_ hR;go_wp2_with fail;refine (laws_markIntS.calls k (fun k_=>some k_=(.slice A_x2 x2.length c_x2:Value).ownBlock) _ x2 k2 k3 xo w _ (zb HB.out) (by repeat (first|(with_reducible exact Hx2.out.tight rfl)|(with_reducible refine Kd.R_drewN ?_ _))) HF23.out).mono ?_;rintro e W16 ⟨rfl,hR,hb,hk0⟩;have hk_:Kept W15 W16 (fun k_=>some k_=(.slice A_x2 x2.length c_x2:Value).ownBlock):=hk0;clear hk0;replace HL0:=aM (HL0.out.kept hk_ (by intro k_ h1_ h2_ h3_;have h4_:=Hx2.out.2.1 k_ h3_.symm;have:=HSZ.out;omega));replace HL1:=aM (HL1.out.kept hk_ (by intro k_ h1_ h2_ h3_;have h4_:=Hx2.out.2.1 k_ h3_.symm;have:=HSZ.out;omega));replace HL2:=aM (HL2.out.kept hk_ (by intro k_ h1_ h2_ h3_;have h4_:=Hx2.out.2.1 k_ h3_.symm;have:=HSZ.out;omega));replace Hy0:=aM (Hy0.out.kept hk_ (by intro k_ h1_ h2_ h3_;have h4_:=Hx2.out.2.1 k_ h3_.symm;have:=HSZ.out;omega));replace Hz0:=aM (Hz0.out.kept hk_ (by intro k_ h1_ h2_ h3_;have h4_:=Hx2.out.2.1 k_ h3_.symm;have:=HSZ.out;omega));replace Ht0:=aM (Ht0.out.kept hk_ (by intro k_ h1_ h2_ h3_;have h4_:=Hx2.out.2.1 k_ h3_.symm;have:=HSZ.out;omega));replace Hw0:=aM (Hw0.out.kept hk_ (by intro k_ h1_ h2_ h3_;have h4_:=Hx2.out.2.1 k_ h3_.symm;have:=HSZ.out;omega));replace Hw1:=aM (Hw1.out.kept hk_ (by intro k_ h1_ h2_ h3_;have h4_:=Hx2.out.2.1 k_ h3_.symm;have:=HSZ.out;omega));replace Hg0:=aM (Hg0.out.kept hk_ (by intro k_ h1_ h2_ h3_;have h4_:=Hx2.out.2.1 k_ h3_.symm;have:=HSZ.out;omega));replace Hg1:=aM (Hg1.out.kept hk_ (by intro k_ h1_ h2_ h3_;have h4_:=Hx2.out.2.1 k_ h3_.symm;have:=HSZ.out;omega));replace Hy1:=aM (Hy1.out.kept hk_ (by intro k_ h1_ h2_ h3_;have h4_:=Hx2.out.2.1 k_ h3_.symm;have:=HSZ.out;omega));replace Hz1:=aM (Hz1.out.kept hk_ (by intro k_ h1_ h2_ h3_;have h4_:=Hx2.out.2.1 k_ h3_.symm;have:=HSZ.out;omega));replace Ht1:=aM (Ht1.out.kept hk_ (by intro k_ h1_ h2_ h3_;have h4_:=Hx2.out.2.1 k_ h3_.symm;have:=HSZ.out;omega));replace Hx0:=aM (Hx0.out.kept hk_ (by intro k_ h1_ h2_ h3_;have h4_:=Hx2.out.2.1 k_ h3_.symm;have:=HSZ.out;omega));replace Hx1:=aM (Hx1.out.kept hk_ (by intro k_ h1_ h2_ h3_;have h4_:=Hx2.out.2.1 k_ h3_.symm;have:=HSZ.out;omega));replace Hx2:=aM (WR.marked Hx2.out rfl hk_ hR);replace HSZ:=aM (And.intro HSZ.out hk_.1);clear HB;have HB:=aM hb;have hl_xo:x2.length=xo.length:=Hx2.out.len;have HC_xo:Aside0 (xo.length≤c_x2):=⟨by rw [← hl_xo];exact HC_x2.out⟩;rw [hl_xo] at Hx2 ⊢;clear hb hk_ hR;go_wp2_with fail;refine (laws_eqRatioS.calls k _ _ g0 _ _ w0 true _ (by repeat (first|(with_reducible exact Hg0.out.now)|(with_reducible refine Kd.C_alloc ?_ _)|(with_reducible refine Kd.C_drewN ?_ _)|(with_reducible refine Kd.C_drew ?_)|exact Hg0.out.now)) HC_g0.out (by repeat (first|(with_reducible exact Hw0.out.now)|(with_reducible refine Kd.C_alloc ?_ _)|(with_reducible refine Kd.C_drewN ?_ _)|(with_reducible refine Kd.C_drew ?_)|exact Hw0.out.now)) HC_w0.out HF25.out).mono ?_;rintro e W17 ⟨rfl,hb⟩;have hb1_:Below W16.heap.size W16 W17:=below_step (by repeat (first|(with_reducible exact Below.refl _ _)|apply below_alloc|apply pw_below_drewN|apply below_drew1)) hb;replace HL0:=aM (HL0.out.below hb1_);replace HL1:=aM (HL1.out.below hb1_);replace HL2:=aM (HL2.out.below hb1_);replace Hy0:=aM (Hy0.out.below hb1_);replace Hz0:=aM (Hz0.out.below hb1_);replace Ht0:=aM (Ht0.out.below hb1_);replace Hw0:=aM (Hw0.out.below hb1_);replace Hw1:=aM (Hw1.out.below hb1_);replace Hg0:=aM (Hg0.out.below hb1_);replace Hg1:=aM (Hg1.out.below hb1_);replace Hy1:=aM (Hy1.out.below hb1_);replace Hz1:=aM (Hz1.out.below hb1_);replace Ht1:=aM (Ht1.out.below hb1_);replace Hx0:=aM (Hx0.out.below hb1_);replace Hx1:=aM (Hx1.out.below hb1_);replace Hx2:=aM (Hx2.out.below hb1_);replace HB:=aM (below_step HB.out hb1_);replace HSZ:=aM (And.intro HSZ.out hb1_.size);clear hb hb1_;go_wp2_with fail;refine (laws_eqRatioS.calls k _ _ g1 _ _ w1 true _ (by repeat (first|(with_reducible exact Hg1.out.now)|(with_reducible refine Kd.C_alloc ?_ _)|(with_reducible refine Kd.C_drewN ?_ _)|(with_reducible refine Kd.C_drew ?_)|exact Hg1.out.now)) HC_g1.out (by repeat (first|(with_reducible exact Hw1.out.now)|(with_reducible refine Kd.C_alloc ?_ _)|(with_reducible refine Kd.C_drewN ?_ _)|(with_reducible refine Kd.C_drew ?_)|exact Hw1.out.now)) HC_w1.out HF26.out).mono ?_;rintro e W18 ⟨rfl,hb⟩;have hb1_:Below W17.heap.size W17 W18:=below_step (by repeat (first|(with_reducible exact Below.refl _ _)|apply below_alloc|apply pw_below_drewN|apply below_drew1)) hb;replace HL0:=aM (HL0.out.below hb1_);replace HL1:=aM (HL1.out.below hb1_);replace HL2:=aM (HL2.out.below hb1_);replace Hy0:=aM (Hy0.out.below hb1_);replace Hz0:=aM (Hz0.out.below hb1_);replace Ht0:=aM (Ht0.out.below hb1_);replace Hw0:=aM (Hw0.out.below hb1_);replace Hw1:=aM (Hw1.out.below hb1_);replace Hg0:=aM (Hg0.out.below hb1_);replace Hg1:=aM (Hg1.out.below hb1_);replace Hy1:=aM (Hy1.out.below hb1_);replace Hz1:=aM (Hz1.out.below hb1_);replace Ht1:=aM (Ht1.out.below hb1_);replace Hx0:=aM (Hx0.out.below hb1_);replace Hx1:=aM (Hx1.out.below hb1_);replace Hx2:=aM (Hx2.out.below hb1_);replace HB:=aM (below_step HB.out hb1_);replace HSZ:=aM (And.intro HSZ.out hb1_.size);clear hb hb1_;go_wp2_with fail;refine (laws_markRatioS.calls k (fun k_=>some k_=(.slice A_g0 g0.length c_g0:Value).ownBlock) _ g0 1 m1 gm w _ (zb HB.out) (by repeat (first|(with_reducible exact Hg0.out.tight rfl)|(with_reducible refine Kd.R_drewN ?_ _))) HF27.out).mono ?_;rintro e W19 ⟨rfl,hR,hb,hk0⟩;have hk_:Kept W18 W19 (fun k_=>some k_=(.slice A_g0 g0.length c_g0:Value).ownBlock):=hk0;clear hk0;replace HL0:=aM (HL0.out.kept hk_ (by intro k_ h1_ h2_ h3_;have h4_:=Hg0.out.2.1 k_ h3_.symm;have:=HSZ.out;omega));replace HL1:=aM (HL1.out.kept hk_ (by intro k_ h1_ h2_ h3_;have h4_:=Hg0.out.2.1 k_ h3_.symm;have:=HSZ.out;omega));replace HL2:=aM (HL2.out.kept hk_ (by intro k_ h1_ h2_ h3_;have h4_:=Hg0.out.2.1 k_ h3_.symm;have:=HSZ.out;omega));replace Hy0:=aM (Hy0.out.kept hk_ (by intro k_ h1_ h2_ h3_;have h4_:=Hg0.out.2.1 k_ h3_.symm;have:=HSZ.out;omega));replace Hz0:=aM (Hz0.out.kept hk_ (by intro k_ h1_ h2_ h3_;have h4_:=Hg0.out.2.1 k_ h3_.symm;have:=HSZ.out;omega));replace Ht0:=aM (Ht0.out.kept hk_ (by intro k_ h1_ h2_ h3_;have h4_:=Hg0.out.2.1 k_ h3_.symm;have:=HSZ.out;omega));replace Hw0:=aM (Hw0.out.kept hk_ (by intro k_ h1_ h2_ h3_;have h4_:=Hg0.out.2.1 k_ h3_.symm;have:=HSZ.out;omega));replace Hw1:=aM (Hw1.out.kept hk_ (by intro k_ h1_ h2_ h3_;have h4_:=Hg0.out.2.1 k_ h3_.symm;have:=HSZ.out;omega));replace Hg1:=aM (WR.keptNe Hg1.out rfl hk_ (fun k_ h1_ h2_=>HNE_g0_g1.out k_ h2_ h1_));replace Hy1:=aM (Hy1.out.kept hk_ (by intro k_ h1_ h2_ h3_;have h4_:=Hg0.out.2.1 k_ h3_.symm;have:=HSZ.out;omega));replace Hz1:=aM (Hz1.out.kept hk_ (by intro k_ h1_ h2_ h3_;have h4_:=Hg0.out.2.1 k_ h3_.symm;have:=HSZ.out;omega));replace Ht1:=aM (Ht1.out.kept hk_ (by intro k_ h1_ h2_ h3_;have h4_:=Hg0.out.2.1 k_ h3_.symm;have:=HSZ.out;omega));replace Hx0:=aM (Hx0.out.kept hk_ (by intro k_ h1_ h2_ h3_;have h4_:=Hg0.out.2.1 k_ h3_.symm;have:=HSZ.out;omega));replace Hx1:=aM (Hx1.out.kept hk_ (by intro k_ h1_ h2_ h3_;have h4_:=Hg0.out.2.1 k_ h3_.symm;have:=HSZ.out;omega));replace Hx2:=aM (Hx2.out.kept hk_ (by intro k_ h1_ h2_ h3_;have h4_:=Hg0.out.2.1 k_ h3_.symm;have:=HSZ.out;omega));replace Hg0:=aM (WR.marked Hg0.out rfl hk_ hR);replace HSZ:=aM (And.intro HSZ.out hk_.1);clear HB;have HB:=aM hb;have hl_gm:g0.length=gm.length:=Hg0.out.len;have HC_gm:Aside0 (gm.length≤c_g0):=⟨by rw [← hl_gm];exact HC_g0.out⟩;rw [hl_gm] at Hg0 ⊢;rw [hl_gm] at HNE_g0_g1;clear hb hk_ hR;go_wp2_with fail;refine (laws_markRatioS.calls k (fun k_=>some k_=(.slice A_g1 g1.length c_g1:Value).ownBlock) _ g1 m1 m2 gn w _ (zb HB.out) (by repeat (first|(with_reducible exact Hg1.out.tight rfl)|(with_reducible refine Kd.R_drewN ?_ _))) HF28.out).mono ?_;rintro e W20 ⟨rfl,hR,hb,hk0⟩;have hk_:Kept W19 W20 (fun k_=>some k_=(.slice A_g1 g1.length c_g1:Value).ownBlock):=hk0;clear hk0;replace HL0:=aM (HL0.out.kept hk_ (by intro k_ h1_ h2_ h3_;have h4_:=Hg1.out.2.1 k_ h3_.symm;have:=HSZ.out;omega));replace HL1:=aM (HL1.out.kept hk_ (by intro k_ h1_ h2_ h3_;have h4_:=Hg1.out.2.1 k_ h3_.symm;have:=HSZ.out;omega));replace HL2:=aM (HL2.out.kept hk_ (by intro k_ h1_ h2_ h3_;have h4_:=Hg1.out.2.1 k_ h3_.symm;have:=HSZ.out;omega));replace Hy0:=aM (Hy0.out.kept hk_ (by intro k_ h1_ h2_ h3_;have h4_:=Hg1.out.2.1 k_ h3_.symm;have:=HSZ.out;omega));replace Hz0:=aM (Hz0.out.kept hk_ (by intro k_ h1_ h2_ h3_;have h4_:=Hg1.out.2.1 k_ h3_.symm;have:=HSZ.out;omega));replace Ht0:=aM (Ht0.out.kept hk_ (by intro k_ h1_ h2_ h3_;have h4_:=Hg1.out.2.1 k_ h3_.symm;have:=HSZ.out;omega));replace Hw0:=aM (Hw0.out.kept hk_ (by intro k_ h1_ h2_ h3_;have h4_:=Hg1.out.2.1 k_ h3_.symm;have:=HSZ.out;omega));replace Hw1:=aM (Hw1.out.kept hk_ (by intro k_ h1_ h2_ h3_;have h4_:=Hg1.out.2.1 k_ h3_.symm;have:=HSZ.out;omega));replace Hy1:=aM (Hy1.out.kept hk_ (by intro k_ h1_ h2_ h3_;have h4_:=Hg1.out.2.1 k_ h3_.symm;have:=HSZ.out;omega));replace Hz1:=aM (Hz1.out.kept hk_ (by intro k_ h1_ h2_ h3_;have h4_:=Hg1.out.2.1 k_ h3_.symm;have:=HSZ.out;omega));replace Ht1:=aM (Ht1.out.kept hk_ (by intro k_ h1_ h2_ h3_;have h4_:=Hg1.out.2.1 k_ h3_.symm;have:=HSZ.out;omega));replace Hx0:=aM (Hx0.out.kept hk_ (by intro k_ h1_ h2_ h3_;have h4_:=Hg1.out.2.1 k_ h3_.symm;have:=HSZ.out;omega));replace Hx1:=aM (Hx1.out.kept hk_ (by intro k_ h1_ h2_ h3_;have h4_:=Hg1.out.2.1 k_ h3_.symm;have:=HSZ.out;omega));replace Hx2:=aM (Hx2.out.kept hk_ (by intro k_ h1_ h2_ h3_;have h4_:=Hg1.out.2.1 k_ h3_.symm;have:=HSZ.out;omega));replace Hg0:=aM (WR.keptNe Hg0.out rfl hk_ (fun k_ h1_ h2_=>HNE_g0_g1.out k_ h1_ h2_));replace Hg1:=aM (WR.marked Hg1.out rfl hk_ hR);replace HSZ:=aM (And.intro HSZ.out hk_.1);clear HB;have HB:=aM hb;have hl_gn:g1.length=gn.length:=Hg1.out.len;have HC_gn:Aside0 (gn.length≤c_g1):=⟨by rw [← hl_gn];exact HC_g1.out⟩;rw [hl_gn] at Hg1 ⊢;rw [hl_gn] at HNE_g0_g1;clear hb hk_ hR;go_wp2_with fail;refine (laws_heldRatioS.calls k _ _ gm 1 q1 _ (by repeat (first|(with_reducible exact Hg0.out.now)|(with_reducible refine Kd.C_alloc ?_ _)|(with_reducible refine Kd.C_drewN ?_ _)|(with_reducible refine Kd.C_drew ?_)|exact Hg0.out.now)) HC_gm.out HF29.out).mono ?_;rintro e w' ⟨rfl,⟨nd,rfl⟩⟩;go_wp2_with fail;refine (laws_heldRatioS.calls k _ _ gn q1 m2 _ (by repeat (first|(with_reducible exact Hg1.out.now)|(with_reducible refine Kd.C_alloc ?_ _)|(with_reducible refine Kd.C_drewN ?_ _)|(with_reducible refine Kd.C_drew ?_)|exact Hg1.out.now)) HC_gn.out HF31.out).mono ?_;rintro e w' ⟨rfl,⟨nd,rfl⟩⟩;go_wp2_with fail;refine (laws_toIntSS.calls k _ _ l0 y2 _ (by repeat (first|(with_reducible exact HL0.out.now)|(with_reducible refine Kd.C_alloc ?_ _)|(with_reducible refine Kd.C_drewN ?_ _)|(with_reducible refine Kd.C_drew ?_)|exact HL0.out.now)) HC0.out HF34.out).mono ?_;rintro e W21 ⟨v_,rfl,ho,hb⟩;have hb1_:Below W20.heap.size W20 W21:=below_step (by repeat (first|(with_reducible exact Below.refl _ _)|apply below_alloc|apply pw_below_drewN|apply below_drew1)) hb;replace HL0:=aM (HL0.out.below hb1_);replace HL1:=aM (HL1.out.below hb1_);replace HL2:=aM (HL2.out.below hb1_);replace Hy0:=aM (Hy0.out.below hb1_);replace Hz0:=aM (Hz0.out.below hb1_);replace Ht0:=aM (Ht0.out.below hb1_);replace Hw0:=aM (Hw0.out.below hb1_);replace Hw1:=aM (Hw1.out.below hb1_);replace Hy1:=aM (Hy1.out.below hb1_);replace Hz1:=aM (Hz1.out.below hb1_);replace Ht1:=aM (Ht1.out.below hb1_);replace Hx0:=aM (Hx0.out.below hb1_);replace Hx1:=aM (Hx1.out.below hb1_);replace Hx2:=aM (Hx2.out.below hb1_);replace Hg0:=aM (Hg0.out.below hb1_);replace Hg1:=aM (Hg1.out.below hb1_);replace HB:=aM (below_step HB.out hb1_);replace HSZ:=aM (And.intro HSZ.out hb1_.size);have Hy2:Aside0 (Wr W21 W20.heap.size W21.heap.size v_ y2):=⟨Wr.ofS ho⟩;obtain ⟨A_y2,c_y2,e_y2,hc_y2⟩:=Hy2.out.form;subst e_y2;have HC_y2:=aM hc_y2;clear hc_y2 hb hb1_ ho;go_wp2_with fail;refine (laws_toIntS.calls k _ _ l1 z2 _ (by repeat (first|(with_reducible exact HL1.out.now)|(with_reducible refine Kd.C_alloc ?_ _)|(with_reducible refine Kd.C_drewN ?_ _)|(with_reducible refine Kd.C_drew ?_)|exact HL1.out.now)) HC1.out HF35.out).mono ?_;rintro e W22 ⟨v_,rfl,ho,hb⟩;have hb1_:Below W21.heap.size W21 W22:=below_step (by repeat (first|(with_reducible exact Below.refl _ _)|apply below_alloc|apply pw_below_drewN|apply below_drew1)) hb;replace HL0:=aM (HL0.out.below hb1_);replace HL1:=aM (HL1.out.below hb1_);replace HL2:=aM (HL2.out.below hb1_);replace Hy0:=aM (Hy0.out.below hb1_);replace Hz0:=aM (Hz0.out.below hb1_);replace Ht0:=aM (Ht0.out.below hb1_);replace Hw0:=aM (Hw0.out.below hb1_);replace Hw1:=aM (Hw1.out.below hb1_);replace Hy1:=aM (Hy1.out.below hb1_);replace Hz1:=aM (Hz1.out.below hb1_);replace Ht1:=aM (Ht1.out.below hb1_);replace Hx0:=aM (Hx0.out.below hb1_);replace Hx1:=aM (Hx1.out.below hb1_);replace Hx2:=aM (Hx2.out.below hb1_);replace Hg0:=aM (Hg0.out.below hb1_);replace Hg1:=aM (Hg1.out.below hb1_);replace Hy2:=aM (Hy2.out.below hb1_);replace HB:=aM (below_step HB.out hb1_);replace HSZ:=aM (And.intro HSZ.out hb1_.size);obtain ⟨A_z2,c_z2,e_z2,hc_z2,hr_z2⟩:=Rd.ofR ho;subst e_z2;have Hz2:Aside0 (Rd (Kd.int .i64) W22 W21.heap.size W22.heap.size A_z2 z2):=⟨hr_z2⟩;clear hr_z2;have HC_z2:=aM hc_z2;clear hc_z2 hb hb1_ ho;go_wp2_with fail;refine (laws_toIntS.calls k _ _ l2 t2 _ (by repeat (first|(with_reducible exact HL2.out.now)|(with_reducible refine Kd.C_alloc ?_ _)|(with_reducible refine Kd.C_drewN ?_ _)|(with_reducible refine Kd.C_drew ?_)|exact HL2.out.now)) HC2.out HF36.out).mono ?_;rintro e W23 ⟨v_,rfl,ho,hb⟩;have hb1_:Below W22.heap.size W22 W23:=below_step (by repeat (first|(with_reducible exact Below.refl _ _)|apply below_alloc|apply pw_below_drewN|apply below_drew1)) hb;replace HL0:=aM (HL0.out.below hb1_);replace HL1:=aM (HL1.out.below hb1_);replace HL2:=aM (HL2.out.below hb1_);replace Hy0:=aM (Hy0.out.below hb1_);replace Hz0:=aM (Hz0.out.below hb1_);replace Ht0:=aM (Ht0.out.below hb1_);replace Hw0:=aM (Hw0.out.below hb1_);replace Hw1:=aM (Hw1.out.below hb1_);replace Hy1:=aM (Hy1.out.below hb1_);replace Hz1:=aM (Hz1.out.below hb1_);replace Ht1:=aM (Ht1.out.below hb1_);replace Hx0:=aM (Hx0.out.below hb1_);replace Hx1:=aM (Hx1.out.below hb1_);replace Hx2:=aM (Hx2.out.below hb1_);replace Hg0:=aM (Hg0.out.below hb1_);replace Hg1:=aM (Hg1.out.below hb1_);replace Hy2:=aM (Hy2.out.below hb1_);replace Hz2:=aM (Hz2.out.below hb1_);replace HB:=aM (below_step HB.out hb1_);replace HSZ:=aM (And.intro HSZ.out hb1_.size);obtain ⟨A_t2,c_t2,e_t2,hc_t2,hr_t2⟩:=Rd.ofR ho;subst e_t2;have Ht2:Aside0 (Rd (Kd.int .i64) W23 W22.heap.size W23.heap.size A_t2 t2):=⟨hr_t2⟩;clear hr_t2;have HC_t2:=aM hc_t2;clear hc_t2 hb hb1_ ho;go_wp2_with fail;refine (impl_TwoSolutions.calls k _ _ y2 _ _ z2 _ _ t2 h0 h1 w2 _ (by repeat (first|(with_reducible exact Hy2.out.now)|(with_reducible refine Kd.C_alloc ?_ _)|(with_reducible refine Kd.C_drewN ?_ _)|(with_reducible refine Kd.C_drew ?_)|exact Hy2.out.now)) HC_y2.out (by repeat (first|(with_reducible exact Hz2.out.now)|(with_reducible refine Kd.C_alloc ?_ _)|(with_reducible refine Kd.C_drewN ?_ _)|(with_reducible refine Kd.C_drew ?_)|exact Hz2.out.now)) HC_z2.out (by repeat (first|(with_reducible exact Ht2.out.now)|(with_reducible refine Kd.C_alloc ?_ _)|(with_reducible refine Kd.C_drewN ?_ _)|(with_reducible refine Kd.C_drew ?_)|exact Ht2.out.now)) HC_t2.out HF37.out).mono ?_;rintro e W24 ⟨v_,v2_,rfl,ho,ho2,hb⟩;have hb1_:Below W23.heap.size W23 W24:=below_step (by repeat (first|(with_reducible exact Below.refl _ _)|apply below_alloc|apply pw_below_drewN|apply below_drew1)) hb;replace HL0:=aM (HL0.out.below hb1_);replace HL1:=aM (HL1.out.below hb1_);replace HL2:=aM (HL2.out.below hb1_);replace Hy0:=aM (Hy0.out.below hb1_);replace Hz0:=aM (Hz0.out.below hb1_);replace Ht0:=aM (Ht0.out.below hb1_);replace Hw0:=aM (Hw0.out.below hb1_);replace Hw1:=aM (Hw1.out.below hb1_);replace Hy1:=aM (Hy1.out.below hb1_);replace Hz1:=aM (Hz1.out.below hb1_);replace Ht1:=aM (Ht1.out.below hb1_);replace Hx0:=aM (Hx0.out.below hb1_);replace Hx1:=aM (Hx1.out.below hb1_);replace Hx2:=aM (Hx2.out.below hb1_);replace Hg0:=aM (Hg0.out.below hb1_);replace Hg1:=aM (Hg1.out.below hb1_);replace Hy2:=aM (Hy2.out.below hb1_);replace Hz2:=aM (Hz2.out.below hb1_);replace Ht2:=aM (Ht2.out.below hb1_);replace HB:=aM (below_step HB.out hb1_);replace HSZ:=aM (And.intro HSZ.out hb1_.size);obtain ⟨A_h0,c_h0,e_h0,hc_h0,hr_h0⟩:=Rd.ofR ho;subst e_h0;have Hh0:Aside0 (Rd k26 W24 W23.heap.size W24.heap.size A_h0 h0):=⟨hr_h0⟩;clear hr_h0;have HC_h0:=aM hc_h0;clear hc_h0;obtain ⟨A_h1,c_h1,e_h1,hc_h1,hr_h1⟩:=Rd.ofR ho2;subst e_h1;have Hh1:Aside0 (Rd k26 W24 W23.heap.size W24.heap.size A_h1 h1):=⟨hr_h1⟩;clear hr_h1;have HC_h1:=aM hc_h1;clear hc_h1 hb hb1_ ho ho2;go_wp2_with fail;refine (laws_eqRatioS.calls k _ _ h0 _ _ w0 true _ (by repeat (first|(with_reducible exact Hh0.out.now)|(with_reducible refine Kd.C_alloc ?_ _)|(with_reducible refine Kd.C_drewN ?_ _)|(with_reducible refine Kd.C_drew ?_)|exact Hh0.out.now)) HC_h0.out (by repeat (first|(with_reducible exact Hw0.out.now)|(with_reducible refine Kd.C_alloc ?_ _)|(with_reducible refine Kd.C_drewN ?_ _)|(with_reducible refine Kd.C_drew ?_)|exact Hw0.out.now)) HC_w0.out HF38.out).mono ?_;rintro e W25 ⟨rfl,hb⟩;have hb1_:Below W24.heap.size W24 W25:=below_step (by repeat (first|(with_reducible exact Below.refl _ _)|apply below_alloc|apply pw_below_drewN|apply below_drew1)) hb;replace HL0:=aM (HL0.out.below hb1_);replace HL1:=aM (HL1.out.below hb1_);replace HL2:=aM (HL2.out.below hb1_);replace Hy0:=aM (Hy0.out.below hb1_);replace Hz0:=aM (Hz0.out.below hb1_);replace Ht0:=aM (Ht0.out.below hb1_);replace Hw0:=aM (Hw0.out.below hb1_);replace Hw1:=aM (Hw1.out.below hb1_);replace Hy1:=aM (Hy1.out.below hb1_);replace Hz1:=aM (Hz1.out.below hb1_);replace Ht1:=aM (Ht1.out.below hb1_);replace Hx0:=aM (Hx0.out.below hb1_);replace Hx1:=aM (Hx1.out.below hb1_);replace Hx2:=aM (Hx2.out.below hb1_);replace Hg0:=aM (Hg0.out.below hb1_);replace Hg1:=aM (Hg1.out.below hb1_);replace Hy2:=aM (Hy2.out.below hb1_);replace Hz2:=aM (Hz2.out.below hb1_);replace Ht2:=aM (Ht2.out.below hb1_);replace Hh0:=aM (Hh0.out.below hb1_);replace Hh1:=aM (Hh1.out.below hb1_);replace HB:=aM (below_step HB.out hb1_);replace HSZ:=aM (And.intro HSZ.out hb1_.size);clear hb hb1_;go_wp2_with fail;refine (laws_eqRatioS.calls k _ _ h1 _ _ w1 true _ (by repeat (first|(with_reducible exact Hh1.out.now)|(with_reducible refine Kd.C_alloc ?_ _)|(with_reducible refine Kd.C_drewN ?_ _)|(with_reducible refine Kd.C_drew ?_)|exact Hh1.out.now)) HC_h1.out (by repeat (first|(with_reducible exact Hw1.out.now)|(with_reducible refine Kd.C_alloc ?_ _)|(with_reducible refine Kd.C_drewN ?_ _)|(with_reducible refine Kd.C_drew ?_)|exact Hw1.out.now)) HC_w1.out HF39.out).mono ?_;rintro e W26 ⟨rfl,hb⟩;have hb1_:Below W25.heap.size W25 W26:=below_step (by repeat (first|(with_reducible exact Below.refl _ _)|apply below_alloc|apply pw_below_drewN|apply below_drew1)) hb;replace HL0:=aM (HL0.out.below hb1_);replace HL1:=aM (HL1.out.below hb1_);replace HL2:=aM (HL2.out.below hb1_);replace Hy0:=aM (Hy0.out.below hb1_);replace Hz0:=aM (Hz0.out.below hb1_);replace Ht0:=aM (Ht0.out.below hb1_);replace Hw0:=aM (Hw0.out.below hb1_);replace Hw1:=aM (Hw1.out.below hb1_);replace Hy1:=aM (Hy1.out.below hb1_);replace Hz1:=aM (Hz1.out.below hb1_);replace Ht1:=aM (Ht1.out.below hb1_);replace Hx0:=aM (Hx0.out.below hb1_);replace Hx1:=aM (Hx1.out.below hb1_);replace Hx2:=aM (Hx2.out.below hb1_);replace Hg0:=aM (Hg0.out.below hb1_);replace Hg1:=aM (Hg1.out.below hb1_);replace Hy2:=aM (Hy2.out.below hb1_);replace Hz2:=aM (Hz2.out.below hb1_);replace Ht2:=aM (Ht2.out.below hb1_);replace Hh0:=aM (Hh0.out.below hb1_);replace Hh1:=aM (Hh1.out.below hb1_);replace HB:=aM (below_step HB.out hb1_);replace HSZ:=aM (And.intro HSZ.out hb1_.size);clear hb hb1_;go_wp2_with fail;refine (laws_heldRatioS.calls k _ _ gm 1 q3 _ (by repeat (first|(with_reducible exact Hg0.out.now)|(with_reducible refine Kd.C_alloc ?_ _)|(with_reducible refine Kd.C_drewN ?_ _)|(with_reducible refine Kd.C_drew ?_)|exact Hg0.out.now)) HC_gm.out HF41.out).mono ?_;rintro e w' ⟨rfl,⟨nd,rfl⟩⟩;go_wp2_with fail;refine (laws_heldRatioS.calls k _ _ gn q3 m2 _ (by repeat (first|(with_reducible exact Hg1.out.now)|(with_reducible refine Kd.C_alloc ?_ _)|(with_reducible refine Kd.C_drewN ?_ _)|(with_reducible refine Kd.C_drew ?_)|exact Hg1.out.now)) HC_gn.out HF43.out).mono ?_;rintro e w' ⟨rfl,⟨nd,rfl⟩⟩;go_wp2;go_ret;exact ⟨rfl,(zb HB.out)⟩
end Go.Proofs.Ytojkepidkmkmpaa.PFnExactTwoSolutions
end
section
namespace Go.Proofs.YtojkepidkmkmpaaAlg
abbrev V := Nat → Int
inductive Sp (S : V → Prop) : V → Prop
 | of {v : V} : S v → Sp S v
 | zero : Sp S (fun _ => 0)
 | add {u v : V} : Sp S u → Sp S v → Sp S (fun j => u j + v j)
 | smul {u : V} (c : Int) : Sp S u → Sp S (fun j => c * u j)
 | div {u : V} (c : Int) : c ≠ 0 → Sp S (fun j => c * u j) → Sp S u
theorem Sp.congr {S : V → Prop} {u v : V} (h : Sp S u) (e : ∀ j, u j = v j) : Sp S v := by
 have : u = v := funext e
 rwa [← this]
theorem Sp.trans {S T : V → Prop} {v : V} (h : Sp S v) (k : ∀ v, S v → Sp T v) : Sp T v := by
 induction h with
 | of h => exact k _ h
 | zero => exact Sp.zero
 | add _ _ h1 h2 => exact Sp.add h1 h2
 | smul c _ h => exact Sp.smul c h
 | div c hc _ h => exact Sp.div c hc h
theorem Sp.mono {S T : V → Prop} {v : V} (h : Sp S v) (k : ∀ v, S v → T v) : Sp T v := h.trans fun v hv => Sp.of (k v hv)
theorem Sp.comb {S : V → Prop} {u v : V} (a b : Int) (h : Sp S u) (k : Sp S v) : Sp S (fun j => a * u j + b * v j) := Sp.add (Sp.smul a h) (Sp.smul b k)
theorem Sp.sub {S : V → Prop} {u v : V} (a b : Int) (h : Sp S u) (k : Sp S v) : Sp S (fun j => a * u j - b * v j) :=
 (Sp.comb a (-b) h k).congr fun j => by rw [Int.neg_mul, ← Int.sub_eq_add_neg]
theorem Sp.kill {S : V → Prop} {v : V} (h : Sp S v) (φ : V → Int) (h0 : φ (fun _ => 0) = 0) (ha : ∀ u v, φ (fun j => u j + v j) = φ u + φ v)
  (hm : ∀ c u, φ (fun j => c * u j) = c * φ u) (hS : ∀ v, S v → φ v = 0) : φ v = 0 := by
 induction h with
 | of h => exact hS _ h
 | zero => exact h0
 | add _ _ h1 h2 => rw [ha, h1, h2]; rfl
 | smul c _ h => rw [hm, h, Int.mul_zero]
 | div c hc _ h =>
  rw [hm] at h
  exact (Int.mul_eq_zero.1 h).resolve_left hc
theorem Sp.split {T : V → Prop} {o v : V} (h : Sp (fun u => u = o ∨ T u) v) : ∃ a b : Int, a ≠ 0 ∧ Sp T (fun j => a * v j - b * o j) := by
 induction h with
|of h =>
  rcases h with rfl|h
  ·exact ⟨1, 1, by decide, Sp.zero.congr fun j => by simp⟩
  ·exact ⟨1, 0, by decide, (Sp.of h).congr fun j => by omega⟩
|zero => exact ⟨1, 0, by decide, Sp.zero.congr fun j => by simp⟩
|add _ _ h1 h2 =>
  obtain ⟨a1, b1, ha1, h1⟩ := h1
  obtain ⟨a2, b2, ha2, h2⟩ := h2
  refine ⟨a1 * a2, a2 * b1 + a1 * b2, Int.mul_ne_zero ha1 ha2, (Sp.comb a2 a1 h1 h2).congr fun j => ?_⟩
  simp only [Int.mul_sub, Int.mul_add, Int.add_mul, Int.mul_assoc, Int.mul_left_comm a2 a1]
  omega
|smul c _ h =>
  obtain ⟨a, b, ha, h⟩ := h
  refine ⟨a, c * b, ha, (Sp.smul c h).congr fun j => ?_⟩
  simp only [Int.mul_sub, Int.mul_assoc, Int.mul_left_comm]
|div c hc _ h =>
  obtain ⟨a, b, ha, h⟩ := h
  refine ⟨a * c, b, Int.mul_ne_zero ha hc, h.congr fun j => ?_⟩
  simp only [Int.mul_assoc]
def E (c : Nat) (F : List V → Int) : List V → Int
 | [] => 0
 | R :: Rs => R c * F Rs - E c (fun X => F (R :: X)) Rs
def det : List Nat → List V → Int
 | [], _ => 1
 | c :: cs, Rs => E c (det cs) Rs
theorem E_lin (c : Nat) (k l : Int) : ∀ (Rs : List V) (F G : List V → Int), E c (fun X => k * F X - l * G X) Rs = k * E c F Rs - l * E c G Rs
 | [], F, G => by simp [E]
 | R :: Rs, F, G => by
  simp only [E]
  rw [E_lin c k l Rs (fun X => F (R :: X)) (fun X => G (R :: X))]
  simp only [Int.mul_sub, Int.mul_left_comm (R c)]
  omega
theorem E_smul (c : Nat) (k : Int) (Rs : List V) (F : List V → Int) : E c (fun X => k * F X) Rs = k * E c F Rs := by
 have := E_lin c k 0 Rs F F
 simpa using this
theorem E_zero (c : Nat) (Rs : List V) : E c (fun _ => 0) Rs = 0 := by
 have := E_smul c 0 Rs (fun _ => 0)
 simpa using this
theorem E_swap (a b : Nat) : ∀ (Rs : List V) (F : List V → Int), E a (fun X => E b F X) Rs = - E b (fun X => E a F X) Rs
 | [], F => by simp [E]
 | R :: Rs, F => by
  have h1 : E a (fun X => E b F (R :: X)) Rs = R b * E a F Rs - E a (fun X => E b (fun Y => F (R :: Y)) X) Rs := by
   have := E_lin a (R b) 1 Rs F (fun X => E b (fun Y => F (R :: Y)) X)
   simpa [E] using this
  have h2 : E b (fun X => E a F (R :: X)) Rs = R a * E b F Rs - E b (fun X => E a (fun Y => F (R :: Y)) X) Rs := by
   have := E_lin b (R a) 1 Rs F (fun X => E a (fun Y => F (R :: Y)) X)
   simpa [E] using this
  have h3 := E_swap a b Rs (fun Y => F (R :: Y))
  show R a * E b F Rs - E a (fun X => E b F (R :: X)) Rs = -(R b * E a F Rs - E b (fun X => E a F (R :: X)) Rs)
  rw [h1, h2, h3]
  omega
theorem det_dup (cs : List Nat) : ∀ (c : Nat), c ∈ cs → ∀ Rs, det (c :: cs) Rs = 0 := by
 induction cs with
 | nil => intro c h; simp at h
 | cons d cs ih =>
  intro c h Rs
  have hs : det (c :: d :: cs) Rs = - E d (fun X => det (c :: cs) X) Rs := E_swap c d Rs (det cs)
  by_cases e : c = d
  ·subst e
   have : det (c :: c :: cs) Rs = E c (fun X => det (c :: cs) X) Rs := rfl
   omega
  ·have hm : c ∈ cs := by simpa [e] using h
   rw [hs]
   have : (fun X => det (c :: cs) X) = fun _ => 0 := funext (ih c hm)
   rw [this, E_zero]
   rfl
theorem det_erase (cs : List Nat) : ∀ (c : Nat), c ∈ cs → ∃ ε : Int, (ε = 1 ∨ ε = -1) ∧ ∀ Rs, det (c :: cs.erase c) Rs = ε * det cs Rs := by
 induction cs with
|nil => intro c h;simp at h
|cons d cs ih =>
  intro c h
  by_cases e : c = d
  ·subst e
   exact ⟨1, .inl rfl, fun Rs => by simp⟩
  ·have hm : c ∈ cs := by simpa [e] using h
   obtain ⟨ε, he, h⟩ := ih c hm
   refine ⟨-ε, by omega, fun Rs => ?_⟩
   have e1 : (d :: cs).erase c = d :: cs.erase c := by
    rw [List.erase_cons_tail]
    simpa using fun e' => e e'.symm
   rw [e1]
   have hs : det (c :: d :: cs.erase c) Rs = - E d (fun X => det (c :: cs.erase c) X) Rs := E_swap c d Rs (det (cs.erase c))
   rw [hs]
   have : (fun X => det (c :: cs.erase c) X) = fun X => ε * det cs X := funext h
   rw [this, E_smul]
   show -(ε * det (d :: cs) Rs) = _
   rw [Int.neg_mul]
theorem E_mem (F : List V → Int) : ∀ (Rs : List V), Sp (· ∈ Rs) (fun j => E j F Rs) := by
 intro Rs
 induction Rs generalizing F with
 | nil => exact Sp.zero
 | cons R Rs ih =>
  have h1 : Sp (· ∈ R :: Rs) R := Sp.of (by simp)
  have h2 : Sp (· ∈ R :: Rs) (fun j => E j (fun X => F (R :: X)) Rs) := (ih _).mono fun v hv => by simp [hv]
  exact (Sp.sub (F Rs) 1 h1 h2).congr fun j => by simp only [E, Int.one_mul, Int.mul_comm]
theorem det_head (cs : List Nat) (o : V) (Rs : List V) : Sp (· ∈ Rs) (fun j => det (j :: cs) (o :: Rs) - det cs Rs * o j) := by
 have h := E_mem (fun X => det cs (o :: X)) Rs
 refine (Sp.smul (-1) h).congr fun j => ?_
 simp only [det, E]
 rw [Int.mul_comm (o j)]
 omega
def fct : Nat → Nat
 | 0 => 1
 | n + 1 => (n + 1) * fct n
def prod (b : Nat → Nat) : List Nat → Nat
 | [] => 1
 | c :: cs => b c * prod b cs
theorem E_bound (c : Nat) (B N : Nat) : ∀ (Rs : List V) (F : List V → Int), (∀ R ∈ Rs, (R c).natAbs ≤ B) →
  (∀ X : List V, X.length + 1 = Rs.length → (∀ R ∈ X, R ∈ Rs) → (F X).natAbs ≤ N) → (E c F Rs).natAbs ≤ Rs.length * (B * N)
 | [], F, _, _ => by simp [E]
 | R :: Rs, F, hR, hF => by
  have h1 : (R c).natAbs ≤ B := hR R (by simp)
  have h2 : (F Rs).natAbs ≤ N := hF Rs (by simp) fun x hx => by simp [hx]
  have h3 := E_bound c B N Rs (fun X => F (R :: X)) (fun x hx => hR x (by simp [hx])) fun X hX hm => hF (R :: X) (by simp [hX]) fun x hx => by
   rcases List.mem_cons.1 hx with rfl | hx
   ·simp
   ·simp [hm x hx]
  have h4 : (R c * F Rs).natAbs ≤ B * N := by rw [Int.natAbs_mul]; exact Nat.mul_le_mul h1 h2
  simp only [E, List.length_cons, Nat.add_mul, Nat.one_mul]
  omega
theorem det_bound (b : Nat → Nat) : ∀ (cs : List Nat) (Rs : List V), (∀ R ∈ Rs, ∀ c ∈ cs, (R c).natAbs ≤ b c) → Rs.length = cs.length →
  (det cs Rs).natAbs ≤ fct cs.length * prod b cs
 | [], Rs, _, _ => by simp [det, fct, prod]
 | c :: cs, Rs, hb, hl => by
  have := E_bound c (b c) (fct cs.length * prod b cs) Rs (det cs) (fun R hR => hb R hR c (by simp)) fun X hX hm =>
   det_bound b cs X (fun R hR d hd => hb R (hm R hR) d (by simp [hd])) (by simp at hl; omega)
  have e : Rs.length * (b c * (fct cs.length * prod b cs)) = fct (c :: cs).length * prod b (c :: cs) := by
   rw [hl]
   simp only [List.length_cons, fct, prod, Nat.mul_assoc, Nat.mul_left_comm]
  rw [← e]
  exact this
end Go.Proofs.YtojkepidkmkmpaaAlg
namespace Go.Proofs.YtojkepidkmkmpaaAlg
def at0 (l : List Int) : V := fun j => l.getD j 0
def sumOver {α : Type} (f : α → Int) : List α → Int
 | [] => 0
 | a :: l => f a + sumOver f l
theorem sumOver_add {α : Type} (f g : α → Int) : ∀ l, sumOver (fun a => f a + g a) l = sumOver f l + sumOver g l
 | [] => rfl
 | a :: l => by simp only [sumOver]; rw [sumOver_add f g l]; omega
theorem sumOver_mul {α : Type} (c : Int) (f : α → Int) : ∀ l, sumOver (fun a => c * f a) l = c * sumOver f l
 | [] => by simp [sumOver]
 | a :: l => by simp only [sumOver]; rw [sumOver_mul c f l, Int.mul_add]
theorem sumOver_zero {α : Type} (f : α → Int) : ∀ l : List α, (∀ a ∈ l, f a = 0) → sumOver f l = 0
 | [], _ => rfl
 | a :: l, h => by simp only [sumOver]; rw [h a (by simp), sumOver_zero f l fun x hx => h x (by simp [hx])]; rfl
theorem sumOver_congr {α : Type} (f g : α → Int) : ∀ l : List α, (∀ a ∈ l, f a = g a) → sumOver f l = sumOver g l
 | [], _ => rfl
 | a :: l, h => by simp only [sumOver]; rw [h a (by simp), sumOver_congr f g l fun x hx => h x (by simp [hx])]
def Piv (P : List (List Int × Nat)) : Prop := (P.map (·.2)).Nodup ∧ (∀ p ∈ P, at0 p.1 p.2 ≠ 0) ∧ ∀ p ∈ P, ∀ q ∈ P, p.2 ≠ q.2 → at0 p.1 q.2 = 0
theorem sumOver_one (P : List (List Int × Nat)) (f : List Int × Nat → Int) (q : List Int × Nat) (hn : (P.map (·.2)).Nodup) (hq : q ∈ P) (h0 : ∀ p ∈ P, p.2 ≠ q.2 → f p = 0) : sumOver f P = f q := by
 induction P with
 | nil => simp at hq
 | cons p P ih =>
  simp only [List.map_cons, List.nodup_cons] at hn
  simp only [sumOver]
  by_cases e : p = q
  ·subst e
   rw [sumOver_zero f P fun a ha => h0 a (by simp [ha]) fun e => hn.1 (by rw [← e]; exact List.mem_map_of_mem ha)]
   omega
  ·have hm : q ∈ P := by simpa [Ne.symm e] using hq
   rw [h0 p (by simp) fun e' => hn.1 (by rw [e']; exact List.mem_map_of_mem hm), ih hn.2 hm fun a ha => h0 a (by simp [ha])]
   omega
def res (L : Int) (P : List (List Int × Nat)) (v : V) : V := fun j => L * v j - sumOver (fun p => L / at0 p.1 p.2 * v p.2 * at0 p.1 j) P
theorem res_zero (L : Int) (P : List (List Int × Nat)) (j : Nat) : res L P (fun _ => 0) j = 0 := by
 unfold res
 rw [sumOver_zero _ _ fun p _ => by simp]
 simp
theorem res_add (L : Int) (P : List (List Int × Nat)) (u v : V) (j : Nat) : res L P (fun j => u j + v j) j = res L P u j + res L P v j := by
 unfold res
 have := sumOver_add (fun p : List Int × Nat => L / at0 p.1 p.2 * u p.2 * at0 p.1 j) (fun p => L / at0 p.1 p.2 * v p.2 * at0 p.1 j) P
 have e : sumOver (fun p : List Int × Nat => L / at0 p.1 p.2 * (u p.2 + v p.2) * at0 p.1 j) P = sumOver (fun p => L / at0 p.1 p.2 * u p.2 * at0 p.1 j + L / at0 p.1 p.2 * v p.2 * at0 p.1 j) P :=
  sumOver_congr _ _ _ fun p _ => by simp only [Int.mul_add, Int.add_mul]
 rw [e, this, Int.mul_add]
 omega
theorem res_mul (L : Int) (P : List (List Int × Nat)) (c : Int) (u : V) (j : Nat) : res L P (fun j => c * u j) j = c * res L P u j := by
 unfold res
 have := sumOver_mul c (fun p : List Int × Nat => L / at0 p.1 p.2 * u p.2 * at0 p.1 j) P
 have e : sumOver (fun p : List Int × Nat => L / at0 p.1 p.2 * (c * u p.2) * at0 p.1 j) P = sumOver (fun p => c * (L / at0 p.1 p.2 * u p.2 * at0 p.1 j)) P :=
  sumOver_congr _ _ _ fun p _ => by simp only [Int.mul_assoc, Int.mul_left_comm]
 rw [e, this, Int.mul_sub, Int.mul_left_comm]
theorem res_span {P : List (List Int × Nat)} (hP : Piv P) (L : Int) (hL : ∀ p ∈ P, at0 p.1 p.2 ∣ L) {v : V} (h : Sp (fun u => ∃ p ∈ P, at0 p.1 = u) v) (j : Nat) : res L P v j = 0 := by
 refine h.kill (fun v => res L P v j) (res_zero L P j) (fun u v => res_add L P u v j) (fun c u => res_mul L P c u j) fun u hu => ?_
 obtain ⟨q, hq, rfl⟩ := hu
 unfold res
 rw [sumOver_one P _ q hP.1 hq fun p hp e => by
  show L / at0 p.1 p.2 * at0 q.1 p.2 * at0 p.1 j = 0
  rw [hP.2.2 q hq p hp (Ne.symm e)]
  simp]
 rw [Int.ediv_mul_cancel (hL q hq)]
 omega
theorem res_piv {P : List (List Int × Nat)} (hP : Piv P) (L : Int) (hL : ∀ p ∈ P, at0 p.1 p.2 ∣ L) (v : V) (q : List Int × Nat) (hq : q ∈ P) : res L P v q.2 = 0 := by
 unfold res
 rw [sumOver_one P _ q hP.1 hq fun p hp e => by
  show L / at0 p.1 p.2 * v p.2 * at0 p.1 q.2 = 0
  rw [hP.2.2 p hp q hq e]
  simp]
 show L * v q.2 - L / at0 q.1 q.2 * v q.2 * at0 q.1 q.2 = 0
 have := Int.ediv_mul_cancel (hL q hq)
 rw [Int.mul_right_comm, this]
 omega
theorem sumOver_mem (S : V → Prop) (P : List (List Int × Nat)) (g : List Int × Nat → Int) (h : ∀ p ∈ P, Sp S (at0 p.1)) : Sp S (fun j => sumOver (fun p => g p * at0 p.1 j) P) := by
 induction P with
 | nil => exact Sp.zero
 | cons p P ih =>
  exact Sp.add (Sp.smul (g p) (h p (by simp))) (ih fun q hq => h q (by simp [hq]))
theorem res_mem {S : V → Prop} {P : List (List Int × Nat)} (L : Int) {v : V} (hv : Sp S v) (h : ∀ p ∈ P, Sp S (at0 p.1)) : Sp S (res L P v) := by
 refine (Sp.sub L 1 hv (sumOver_mem S P (fun p => L / at0 p.1 p.2 * v p.2) h)).congr fun j => ?_
 unfold res
 omega
def common (P : List (List Int × Nat)) : Int := P.foldr (fun p c => at0 p.1 p.2 * c) 1
theorem common_ne {P : List (List Int × Nat)} (h : ∀ p ∈ P, at0 p.1 p.2 ≠ 0) : common P ≠ 0 := by
 induction P with
 | nil => decide
 | cons p P ih => exact Int.mul_ne_zero (h p (by simp)) (ih fun q hq => h q (by simp [hq]))
theorem dvd_common {P : List (List Int × Nat)} : ∀ p ∈ P, at0 p.1 p.2 ∣ common P := by
 induction P with
 | nil => simp
 | cons p P ih =>
  intro q hq
  rcases List.mem_cons.1 hq with rfl | hq
  ·exact Int.dvd_mul_right _ _
  ·exact Int.dvd_trans (ih q hq) (Int.dvd_mul_left _ _)
theorem zero_of_piv {P : List (List Int × Nat)} (hP : Piv P) {v : V} (h : Sp (fun u => ∃ p ∈ P, at0 p.1 = u) v) (h0 : ∀ p ∈ P, v p.2 = 0) (j : Nat) : v j = 0 := by
 have hr := res_span hP (common P) dvd_common h j
 unfold res at hr
 rw [sumOver_zero _ _ fun p hp => by rw [h0 p hp]; simp] at hr
 have : common P * v j = 0 := by omega
 exact (Int.mul_eq_zero.1 this).resolve_left (common_ne hP.2.1)
theorem prop_of_piv {P : List (List Int × Nat)} (hP : Piv P) {u v : V} (hu : Sp (fun u => ∃ p ∈ P, at0 p.1 = u) u) (hv : Sp (fun u => ∃ p ∈ P, at0 p.1 = u) v)
  (q : List Int × Nat) (h0 : ∀ p ∈ P, p.2 ≠ q.2 → u p.2 = 0 ∧ v p.2 = 0) (j : Nat) : v q.2 * u j = u q.2 * v j := by
 have := zero_of_piv hP (Sp.sub (v q.2) (u q.2) hu hv) (fun p hp => by
  by_cases e : p.2 = q.2
  ·rw [e, Int.mul_comm]; omega
  ·rw [(h0 p hp e).1, (h0 p hp e).2]; simp) j
 omega
def Prim (v : V) : Prop := ∀ d : Int, (∀ j, d ∣ v j) → d ∣ 1
theorem Prim.dvd {v : V} (h : Prim v) (a b : Int) (hb : b ≠ 0) (hd : ∀ j, b ∣ a * v j) : b ∣ a := by
 have hg : (Int.gcd b a : Int) ≠ 0 := by
  intro e
  have := Int.gcd_eq_zero_iff.1 (by omega : Int.gcd b a = 0)
  exact hb this.1
 obtain ⟨b', hb'⟩ := Int.gcd_dvd_left b a
 have h1 : b' ∣ 1 := h b' fun j => by
  have h2 : b ∣ v j * Int.gcd b a := Int.dvd_mul_gcd_iff_dvd_mul.2 (by rw [Int.mul_comm];exact hd j)
  obtain ⟨c, hc⟩ := h2
  refine ⟨c, ?_⟩
  have h3 : (Int.gcd b a : Int) * v j = (Int.gcd b a : Int) * (b' * c) := by
   rw [← Int.mul_assoc, ← hb', ← hc, Int.mul_comm]
  exact Int.eq_of_mul_eq_mul_left hg h3
 obtain ⟨c, hc⟩ := h1
 have h4 : (Int.gcd b a : Int) = b * c := by
  rw [hb', Int.mul_assoc, ← hc, Int.mul_one]
  exact congrArg _ (by rw [← hb'])
 exact Int.dvd_trans ⟨c, h4⟩ (Int.gcd_dvd_right b a)
theorem Prim.of_prop {v w : V} (h : Prim v) (a b : Int) (hb : b ≠ 0) (e : ∀ j, a * v j = b * w j) : ∃ c, (∀ j, w j = c * v j) ∧ a = b * c := by
 obtain ⟨c, hc⟩ := h.dvd a b hb fun j => ⟨w j, e j⟩
 refine ⟨c, fun j => ?_, hc⟩
 have := e j
 rw [hc, Int.mul_assoc] at this
 exact (Int.eq_of_mul_eq_mul_left hb this).symm
theorem Prim.bound {v w : V} (h : Prim v) (a b : Int) (ha : a ≠ 0) (hb : b ≠ 0) (e : ∀ j, a * v j = b * w j) (j : Nat) : (v j).natAbs ≤ (w j).natAbs := by
 obtain ⟨c, hc, hac⟩ := h.of_prop a b hb e
 have h0 : c ≠ 0 := fun h => ha (by rw [hac, h, Int.mul_zero])
 rw [hc j, Int.natAbs_mul]
 exact Nat.le_mul_of_pos_left _ (Int.natAbs_pos.2 h0)
theorem Prim.eq {v w : V} (hv : Prim v) (hw : Prim w) (a b : Int) (ha : 0 < a) (hb : 0 < b) (e : ∀ j, a * v j = b * w j) (j : Nat) : v j = w j := by
 obtain ⟨c, hc, hac⟩ := hv.of_prop a b (by omega) e
 have h1 : c ∣ 1 := hw c fun j => ⟨v j, by rw [hc j]⟩
 have hcp : 0 < c := by
  have : 0 < b * c := by omega
  exact Int.pos_of_mul_pos_right this (by omega)
 have h2 := Int.le_of_dvd (by decide) h1
 have : c = 1 := by omega
 rw [hc j, this, Int.one_mul]
end Go.Proofs.YtojkepidkmkmpaaAlg
namespace Go.Proofs.YtojkepidkmkmpaaAlg
def PS (P : List (List Int × Nat)) : V → Prop := fun u => ∃ p ∈ P, at0 p.1 = u
structure St (S : V → Prop) (P : List (List Int × Nat)) (Q : List (List Int)) : Prop where
 piv : Piv P
 rest0 : ∀ q ∈ Q, ∀ p ∈ P, at0 q p.2 = 0
 inP : ∀ p ∈ P, Sp S (at0 p.1)
 inQ : ∀ q ∈ Q, Sp S (at0 q)
 all : ∀ v, S v → Sp (fun u => PS P u ∨ ∃ q ∈ Q, at0 q = u) v
 orig : ∃ Os : List V, (∀ o ∈ Os, S o ∧ Sp (PS P) o) ∧ Os.length = P.length ∧ det (P.map (·.2)) Os ≠ 0
 from_ : ∀ q ∈ Q, ∃ o, S o ∧ Sp (fun u => u = o ∨ PS P u) (at0 q)
theorem St.start (Q : List (List Int)) (S : V → Prop) (h1 : ∀ q ∈ Q, ∃ o, S o ∧ ∃ g, g ≠ 0 ∧ ∀ j, g * at0 q j = o j) (h2 : ∀ v, S v → ∃ q ∈ Q, ∃ g, g ≠ 0 ∧ ∀ j, g * at0 q j = v j) : St S [] Q where
 piv := ⟨by simp, by simp, by simp⟩
 rest0 := by simp
 inP := by simp
 inQ := fun q hq => by
  obtain ⟨o, ho, g, hg, e⟩ := h1 q hq
  exact Sp.div g hg ((Sp.of ho).congr fun j => (e j).symm)
 all := fun v hv => by
  obtain ⟨q, hq, g, hg, e⟩ := h2 v hv
  exact (Sp.smul g (Sp.of (.inr ⟨q, hq, rfl⟩))).congr e
 orig := ⟨[], by simp, rfl, by simp [det]⟩
 from_ := fun q hq => by
  obtain ⟨o, ho, g, hg, e⟩ := h1 q hq
  exact ⟨o, ho, Sp.div g hg ((Sp.of (.inl rfl)).congr fun j => (e j).symm)⟩
theorem at0_prop {S : V → Prop} {P : List (List Int × Nat)} {Q : List (List Int)} (h : St S P Q) (Os : List V) (hO : ∀ o ∈ Os, S o ∧ Sp (PS P) o) (_hl : Os.length = P.length) (hD : det (P.map (·.2)) Os ≠ 0)
  (q : List Int) (hq : q ∈ Q) (hn : ∃ j, at0 q j ≠ 0) : ∃ (o : V) (a b : Int), S o ∧ a ≠ 0 ∧ b ≠ 0 ∧ Sp (PS P) (fun j => a * at0 q j - b * o j) ∧ ∀ j, det (P.map (·.2)) Os * a * at0 q j = b * det (j :: P.map (·.2)) (o :: Os) := by
 obtain ⟨o, ho, hs⟩ := h.from_ q hq
 obtain ⟨a, b, ha, hab⟩ := hs.split
 have hhead : Sp (PS P) (fun j => det (j :: P.map (·.2)) (o :: Os) - det (P.map (·.2)) Os * o j) := (det_head (P.map (·.2)) o Os).trans fun v hv => (hO v hv).2
 have hz : ∀ j, det (P.map (·.2)) Os * a * at0 q j = b * det (j :: P.map (·.2)) (o :: Os) := by
  have hs : Sp (PS P) (fun j => det (P.map (·.2)) Os * a * at0 q j - b * det (j :: P.map (·.2)) (o :: Os)) := by
   refine (Sp.sub (det (P.map (·.2)) Os) b hab hhead).congr fun j => ?_
   simp only [Int.mul_sub, Int.mul_assoc, Int.mul_left_comm b]
   omega
  intro j
  have := zero_of_piv h.piv hs (fun p hp => by
   show det (P.map (·.2)) Os * a * at0 q p.2 - b * det (p.2 :: P.map (·.2)) (o :: Os) = 0
   rw [h.rest0 q hq p hp, det_dup _ p.2 (List.mem_map_of_mem hp)]
   simp) j
  omega
 refine ⟨o, a, b, ho, ha, ?_, hab, hz⟩
 rintro rfl
 obtain ⟨j, hj⟩ := hn
 have := hz j
 rw [Int.zero_mul] at this
 rcases Int.mul_eq_zero.1 this with h|h
 ·exact Int.mul_ne_zero hD ha h
 ·exact hj h
theorem St.step {S : V → Prop} {P : List (List Int × Nat)} {Q Q' : List (List Int)} (h : St S P Q) (q : List Int) (k : Nat) (hk : at0 q k ≠ 0) (hq : q ∈ Q)
  (hQ : ∀ x ∈ Q, x = q ∨ x ∈ Q') (hQ' : ∀ x ∈ Q', x ∈ Q) (f : List Int → List Int)
  (hf : ∀ r, ((∃ p ∈ P, p.1 = r) ∨ r ∈ Q') → ∃ g α β : Int, g ≠ 0 ∧ α ≠ 0 ∧ (∀ j, g * at0 (f r) j = α * at0 r j - β * at0 q j) ∧ at0 (f r) k = 0) :
  St S ((q, k) :: P.map fun p => (f p.1, p.2)) (Q'.map f) := by
 have hcol : ((P.map fun p => (f p.1, p.2)).map (·.2)) = P.map (·.2) := by rw [List.map_map];rfl
 have hknot : k ∉ P.map (·.2) := fun hm => by
  replace hm := List.mem_map.1 hm
  obtain ⟨p, hp, rfl⟩ := hm
  exact hk (h.rest0 q hq p hp)
 have hfp : ∀ p ∈ P, ∃ g α β : Int, g ≠ 0 ∧ α ≠ 0 ∧ (∀ j, g * at0 (f p.1) j = α * at0 p.1 j - β * at0 q j) ∧ at0 (f p.1) k = 0 := fun p hp => hf p.1 (.inl ⟨p, hp, rfl⟩)
 have hfq : ∀ r ∈ Q', ∃ g α β : Int, g ≠ 0 ∧ α ≠ 0 ∧ (∀ j, g * at0 (f r) j = α * at0 r j - β * at0 q j) ∧ at0 (f r) k = 0 := fun r hr => hf r (.inr hr)
 have hqin : Sp (PS ((q, k) :: P.map fun p => (f p.1, p.2))) (at0 q) := Sp.of ⟨(q, k), by simp, rfl⟩
 have hold : ∀ v, PS P v → Sp (PS ((q, k) :: P.map fun p => (f p.1, p.2))) v := by
  rintro v ⟨p, hp, rfl⟩
  obtain ⟨g, α, β, hg, hα, e, _⟩ := hfp p hp
  have h1 : Sp (PS ((q, k) :: P.map fun p => (f p.1, p.2))) (at0 (f p.1)) := Sp.of ⟨(f p.1, p.2), List.mem_cons_of_mem _ (List.mem_map.2 ⟨p, hp, rfl⟩), rfl⟩
  refine Sp.div α hα ((Sp.comb g β h1 hqin).congr fun j => ?_)
  rw [e j]
  omega
 refine ⟨⟨?_, ?_, ?_⟩, ?_, ?_, ?_, ?_, ?_, ?_⟩
 ·simp only [List.map_cons, List.nodup_cons, hcol]
  exact ⟨hknot, h.piv.1⟩
 ·intro p hp
  replace hp := List.mem_cons.1 hp
  rcases hp with rfl|hp
  ·exact hk
  ·replace hp := List.mem_map.1 hp
   obtain ⟨p, hp, rfl⟩ := hp
   obtain ⟨g, α, β, hg, hα, e, _⟩ := hfp p hp
   intro h0
   have h1 := e p.2
   have h0' : at0 (f p.1) p.2 = 0 := h0
   rw [h0', h.rest0 q hq p hp] at h1
   have h2 := Int.mul_ne_zero hα (h.piv.2.1 p hp)
   omega
 ·intro p hp p' hp' hne
  replace hp := List.mem_cons.1 hp
  rcases hp with rfl|hp
  ·replace hp' := List.mem_cons.1 hp'
   rcases hp' with rfl|hp'
   ·exact absurd rfl hne
   ·replace hp' := List.mem_map.1 hp'
    obtain ⟨p', hp', rfl⟩ := hp'
    exact h.rest0 q hq p' hp'
  ·replace hp := List.mem_map.1 hp
   obtain ⟨p, hp, rfl⟩ := hp
   obtain ⟨g, α, β, hg, hα, e, h0⟩ := hfp p hp
   replace hp' := List.mem_cons.1 hp'
   rcases hp' with rfl|hp'
   ·exact h0
   ·replace hp' := List.mem_map.1 hp'
    obtain ⟨p', hp', rfl⟩ := hp'
    have h1 := e p'.2
    rw [h.rest0 q hq p' hp', h.piv.2.2 p hp p' hp' hne] at h1
    have : g * at0 (f p.1) p'.2 = 0 := by omega
    exact (Int.mul_eq_zero.1 this).resolve_left hg
 ·intro r hr p hp
  replace hr := List.mem_map.1 hr
  obtain ⟨r, hr, rfl⟩ := hr
  obtain ⟨g, α, β, hg, hα, e, h0⟩ := hfq r hr
  replace hp := List.mem_cons.1 hp
  rcases hp with rfl|hp
  ·exact h0
  ·replace hp := List.mem_map.1 hp
   obtain ⟨p, hp, rfl⟩ := hp
   have h1 := e p.2
   rw [h.rest0 q hq p hp, h.rest0 r (hQ' r hr) p hp] at h1
   have : g * at0 (f r) p.2 = 0 := by omega
   exact (Int.mul_eq_zero.1 this).resolve_left hg
 ·intro p hp
  replace hp := List.mem_cons.1 hp
  rcases hp with rfl|hp
  ·exact h.inQ q hq
  ·replace hp := List.mem_map.1 hp
   obtain ⟨p, hp, rfl⟩ := hp
   obtain ⟨g, α, β, hg, hα, e, h0⟩ := hfp p hp
   exact Sp.div g hg ((Sp.sub α β (h.inP p hp) (h.inQ q hq)).congr fun j => (e j).symm)
 ·intro r hr
  replace hr := List.mem_map.1 hr
  obtain ⟨r, hr, rfl⟩ := hr
  obtain ⟨g, α, β, hg, hα, e, h0⟩ := hfq r hr
  exact Sp.div g hg ((Sp.sub α β (h.inQ r (hQ' r hr)) (h.inQ q hq)).congr fun j => (e j).symm)
 ·intro v hv
  refine (h.all v hv).trans fun u hu => ?_
  rcases hu with hu|⟨r, hr, rfl⟩
  ·exact (hold u hu).mono fun v hv => .inl hv
  ·rcases hQ r hr with rfl|hr'
   ·exact hqin.mono fun v hv => .inl hv
   ·obtain ⟨g, α, β, hg, hα, e, _⟩ := hfq r hr'
    have h1 : Sp (fun u => PS ((q, k) :: P.map fun p => (f p.1, p.2)) u ∨ ∃ x ∈ Q'.map f, at0 x = u) (at0 (f r)) := Sp.of (.inr ⟨f r, List.mem_map_of_mem hr', rfl⟩)
    refine Sp.div α hα ((Sp.comb g β h1 (hqin.mono fun v hv => .inl hv)).congr fun j => ?_)
    rw [e j]
    omega
 ·obtain ⟨Os, hO, hl, hD⟩ := h.orig
  obtain ⟨o, a, b, ho, ha, hb, hab, hz⟩ := at0_prop h Os hO hl hD q hq ⟨k, hk⟩
  refine ⟨o :: Os, fun x hx => ?_, by simp [hl], ?_⟩
  ·replace hx := List.mem_cons.1 hx
   rcases hx with rfl|hx
   ·refine ⟨ho, Sp.div b hb ?_⟩
    have h1 := hab.trans hold
    refine (Sp.sub a 1 hqin h1).congr fun j => ?_
    omega
   ·exact ⟨(hO x hx).1, (hO x hx).2.trans hold⟩
  ·simp only [List.map_cons, hcol]
   intro h0
   have := hz k
   rw [h0, Int.mul_zero] at this
   exact Int.mul_ne_zero (Int.mul_ne_zero hD ha) hk this
 ·intro r hr
  replace hr := List.mem_map.1 hr
  obtain ⟨r, hr, rfl⟩ := hr
  obtain ⟨g, α, β, hg, hα, e, h0⟩ := hfq r hr
  obtain ⟨o, ho, hs⟩ := h.from_ r (hQ' r hr)
  refine ⟨o, ho, Sp.div g hg ?_⟩
  have h1 : Sp (fun u => u = o ∨ PS ((q, k) :: P.map fun p => (f p.1, p.2)) u) (at0 r) := hs.trans fun u hu => by
   rcases hu with rfl|hu
   ·exact Sp.of (.inl rfl)
   ·exact (hold u hu).mono fun v hv => .inr hv
  exact (Sp.sub α β h1 (hqin.mono fun v hv => .inr hv)).congr fun j => (e j).symm
theorem St.bound_piv {S : V → Prop} {P : List (List Int × Nat)} {Q : List (List Int)} (h : St S P Q) (b : Nat → Nat) (hb : ∀ o, S o → ∀ j, (o j).natAbs ≤ b j) (hp : ∀ p ∈ P, Prim (at0 p.1)) :
  ∃ D : Int, D ≠ 0 ∧ D.natAbs ≤ fct P.length * prod b (P.map (·.2)) ∧ ∀ p ∈ P, ∃ c : Int, D = at0 p.1 p.2 * c ∧ ∀ j, (c * at0 p.1 j).natAbs ≤ fct P.length * (b j * prod b ((P.map (·.2)).erase p.2)) := by
 obtain ⟨Os, hO, hl, hD⟩ := h.orig
 refine ⟨det (P.map (·.2)) Os, hD, ?_, fun p hpm => ?_⟩
 ·have := det_bound b (P.map (·.2)) Os (fun R hR c _ => hb R (hO R hR).1 c) (by simp [hl])
  simpa using this
 ·obtain ⟨ε, hε, he⟩ := det_erase (P.map (·.2)) p.2 (List.mem_map_of_mem hpm)
  have hW0 : Sp (PS P) (fun j => det (j :: (P.map (·.2)).erase p.2) Os) := by
   have h0 : Sp (· ∈ Os) (fun j => E j (det ((P.map fun x => x.2).erase p.2)) Os) := E_mem _ Os
   exact h0.trans fun v hv => (hO v hv).2
  have hW : Sp (PS P) (fun j => ε * det (j :: (P.map (·.2)).erase p.2) Os) := Sp.smul ε hW0
  have hpr := prop_of_piv h.piv (v := at0 p.1) hW (Sp.of ⟨p, hpm, rfl⟩) p fun q hq hne => ⟨by
   show ε * det (q.2 :: (P.map (·.2)).erase p.2) Os = 0
   rw [det_dup _ q.2 ((List.mem_erase_of_ne hne).2 (List.mem_map_of_mem hq)), Int.mul_zero], h.piv.2.2 p hpm q hq (Ne.symm hne)⟩
  have hεε : ε * (ε * det (P.map (·.2)) Os) = det (P.map (·.2)) Os := by rcases hε with rfl|rfl <;> omega
  have hpr' : ∀ j, det (P.map (·.2)) Os * at0 p.1 j = at0 p.1 p.2 * (ε * det (j :: (P.map (·.2)).erase p.2) Os) := fun j => by
   have := hpr j
   simp only [he Os, hεε] at this
   exact this.symm
  obtain ⟨c, hc, hDc⟩ := (hp p hpm).of_prop _ _ (h.piv.2.1 p hpm) hpr'
  refine ⟨c, hDc, fun j => ?_⟩
  rw [← hc j, Int.natAbs_mul]
  have h1 := det_bound b (j :: (P.map (·.2)).erase p.2) Os (fun R hR c _ => hb R (hO R hR).1 c) (by
   simp only [List.length_cons, List.length_erase_of_mem (List.mem_map_of_mem (f := (·.2)) hpm), List.length_map, hl]
   have := List.length_pos_of_mem hpm
   omega)
  have h2 : (j :: (P.map (·.2)).erase p.2).length = P.length := by
   simp only [List.length_cons, List.length_erase_of_mem (List.mem_map_of_mem (f := (·.2)) hpm), List.length_map]
   have := List.length_pos_of_mem hpm
   omega
  rw [h2] at h1
  have h3 : ε.natAbs = 1 := by rcases hε with rfl|rfl <;> rfl
  rw [h3, Nat.one_mul]
  exact h1
theorem St.bound_rest {S : V → Prop} {P : List (List Int × Nat)} {Q : List (List Int)} (h : St S P Q) (b : Nat → Nat) (hb : ∀ o, S o → ∀ j, (o j).natAbs ≤ b j) (q : List Int) (hq : q ∈ Q) (hp : (∀ j, at0 q j = 0) ∨ Prim (at0 q)) (j : Nat) :
  (at0 q j).natAbs ≤ fct (P.length + 1) * (b j * prod b (P.map (·.2))) := by
 by_cases hn : ∃ j, at0 q j ≠ 0
 ·obtain ⟨Os, hO, hl, hD⟩ := h.orig
  obtain ⟨o, a, c, ho, ha, hc, _, hz⟩ := at0_prop h Os hO hl hD q hq hn
  have hpr : Prim (at0 q) := hp.resolve_left fun h0 => by
   obtain ⟨j, hj⟩ := hn
   exact hj (h0 j)
  have h1 := hpr.bound _ c (Int.mul_ne_zero hD ha) hc hz j
  have h2 := det_bound b (j :: P.map (·.2)) (o :: Os) (fun R hR d _ => by
   rcases List.mem_cons.1 hR with rfl | hR
   ·exact hb _ ho d
   ·exact hb R (hO R hR).1 d) (by simp [hl])
  simp only [List.length_cons, List.length_map, prod] at h2
  omega
 ·have : at0 q j = 0 := Classical.byContradiction fun hj => hn ⟨j, hj⟩
  rw [this]
  simp
end Go.Proofs.YtojkepidkmkmpaaAlg
namespace Go.Proofs.YtojkepidkmkmpaaAlg
structure Red (S : V → Prop) (c : Nat) (P : List (List Int × Nat)) (Q : List (List Int)) : Prop where
 st : St S P Q
 low : ∀ q ∈ Q, ∀ j, j < c → at0 q j = 0
 ncol : ∀ p ∈ P, p.2 < c
 lead : ∀ p ∈ P, ∀ j, j < p.2 → at0 p.1 j = 0
 pos : ∀ p ∈ P, 0 < at0 p.1 p.2
 prim : ∀ p ∈ P, Prim (at0 p.1)
 tq : ∀ q ∈ Q, (∀ j, at0 q j = 0) ∨ (Prim (at0 q) ∧ ∃ k, 0 < at0 q k ∧ ∀ j, j < k → at0 q j = 0)
 sorted : (P.map (·.2)).Pairwise (· > ·)
theorem Red.piv_of {S : V → Prop} {c : Nat} {P : List (List Int × Nat)} {Q : List (List Int)} (h : Red S c P Q) {k : Nat} (hk : k < c) {v : V} (hv : Sp S v) (h0 : ∀ j, j < k → v j = 0) (h1 : v k ≠ 0) : k ∈ P.map (·.2) := by
 refine Classical.byContradiction fun hn => ?_
 have hP := h.st.piv
 have hr : res (common P) P v k = 0 := by
  refine (hv.trans h.st.all).kill (fun v => res (common P) P v k) (res_zero _ P k) (fun u v => res_add _ P u v k) (fun c u => res_mul _ P c u k) fun u hu => ?_
  rcases hu with hu|⟨q, hq, rfl⟩
  ·exact res_span hP (common P) dvd_common (Sp.of hu) k
  ·unfold res
   rw [sumOver_zero _ _ fun p hp => by rw [h.st.rest0 q hq p hp];simp, h.low q hq k hk]
   simp
 unfold res at hr
 rw [sumOver_zero _ _ fun p hp => by
  rcases Nat.lt_trichotomy p.2 k with hlt|heq|hgt
  ·rw [h0 _ hlt];simp
  ·exact absurd (List.mem_map.2 ⟨p, hp, heq⟩) hn
  ·rw [h.lead p hp k hgt];simp] at hr
 have : common P * v k = 0 := by omega
 rcases Int.mul_eq_zero.1 this with h|h
 ·exact common_ne hP.2.1 h
 ·exact h1 h
theorem Red.mem_iff {S : V → Prop} {c : Nat} {P : List (List Int × Nat)} {Q : List (List Int)} (h : Red S c P Q) (k : Nat) : k ∈ P.map (·.2) ↔ k < c ∧ ∃ v, Sp S v ∧ (∀ j, j < k → v j = 0) ∧ v k ≠ 0 := by
 constructor
 ·intro hm
  obtain ⟨p, hp, rfl⟩ := List.mem_map.1 hm
  exact ⟨h.ncol p hp, at0 p.1, h.st.inP p hp, h.lead p hp, h.st.piv.2.1 p hp⟩
 ·rintro ⟨hk, v, hv, h0, h1⟩
  exact h.piv_of hk hv h0 h1
theorem sorted_eq : ∀ (l l' : List Nat), l.Pairwise (· > ·) → l'.Pairwise (· > ·) → (∀ k, k ∈ l ↔ k ∈ l') → l = l'
 | [], [], _, _, _ => rfl
 | [], b :: l', _, _, h => absurd ((h b).2 (by simp)) (by simp)
 | a :: l, [], _, _, h => absurd ((h a).1 (by simp)) (by simp)
 | a :: l, b :: l', h1, h2, h => by
  have h1' := List.pairwise_cons.1 h1
  have h2' := List.pairwise_cons.1 h2
  have e : a = b := by
   have ha := (h a).1 (by simp)
   have hb := (h b).2 (by simp)
   rcases List.mem_cons.1 ha with e | ha
   ·exact e
   ·rcases List.mem_cons.1 hb with e | hb
    ·exact e.symm
    ·have := h1'.1 b hb
     have := h2'.1 a ha
     omega
  subst e
  rw [sorted_eq l l' h1'.2 h2'.2 fun k => ⟨fun hk => ?_, fun hk => ?_⟩]
  ·rcases List.mem_cons.1 ((h k).1 (by simp [hk])) with e | h
   ·have := h1'.1 k hk; omega
   ·exact h
  ·rcases List.mem_cons.1 ((h k).2 (by simp [hk])) with e | h
   ·have := h2'.1 k hk; omega
   ·exact h
theorem Red.cols {S S' : V → Prop} {c : Nat} {P P' : List (List Int × Nat)} {Q Q' : List (List Int)} (h : Red S c P Q) (h' : Red S' c P' Q') (e : ∀ v, Sp S v ↔ Sp S' v) : P.map (·.2) = P'.map (·.2) :=
 sorted_eq _ _ h.sorted h'.sorted fun k => by
  rw [h.mem_iff, h'.mem_iff]
  constructor
  ·rintro ⟨hk, v, hv, hh⟩
   exact ⟨hk, v, (e v).1 hv, hh⟩
  ·rintro ⟨hk, v, hv, hh⟩
   exact ⟨hk, v, (e v).2 hv, hh⟩
theorem Red.span {S : V → Prop} {c : Nat} {P : List (List Int × Nat)} {Q : List (List Int)} (h : Red S c P Q) (hz : ∀ q ∈ Q, ∀ j, at0 q j = 0) {v : V} (hv : Sp S v) : Sp (PS P) v :=
 (hv.trans h.st.all).trans fun u hu => by
  rcases hu with hu | ⟨q, hq, rfl⟩
  ·exact Sp.of hu
  ·exact Sp.zero.congr fun j => (hz q hq j).symm
theorem Red.row_eq {S S' : V → Prop} {c : Nat} {P P' : List (List Int × Nat)} {Q Q' : List (List Int)} (h : Red S c P Q) (hz : ∀ q ∈ Q, ∀ j, at0 q j = 0) (h' : Red S' c P' Q') (e : ∀ v, Sp S' v → Sp S v) (hc : P.map (·.2) = P'.map (·.2))
  (p p' : List Int × Nat) (hp : p ∈ P) (hp' : p' ∈ P') (hpp : p.2 = p'.2) (j : Nat) : at0 p.1 j = at0 p'.1 j := by
 have hu : Sp (PS P) (at0 p.1) := Sp.of ⟨p, hp, rfl⟩
 have hv : Sp (PS P) (at0 p'.1) := h.span hz (e _ (h'.st.inP p' hp'))
 have hpr := prop_of_piv h.st.piv hu hv p fun r hr hne => by
  refine ⟨h.st.piv.2.2 p hp r hr (Ne.symm hne), ?_⟩
  have hm : r.2 ∈ P'.map (·.2) := by rw [← hc];exact List.mem_map_of_mem hr
  obtain ⟨r', hr', e'⟩ := List.mem_map.1 hm
  rw [← e']
  refine h'.st.piv.2.2 p' hp' r' hr' fun e2 => hne ?_
  rw [hpp, e2]
  exact e'.symm
 have h1 := h.pos p hp
 have h2 := h'.pos p' hp'
 rw [← hpp] at h2
 exact (h.prim p hp).eq (h'.prim p' hp') _ _ h2 h1 hpr j
theorem at0_ext {l l' : List Int} (hl : l.length = l'.length) (h : ∀ j, at0 l j = at0 l' j) : l = l' := by
 apply List.ext_getElem hl
 intro i h1 h2
 have := h i
 unfold at0 at this
 rw [List.getD_eq_getElem?_getD, List.getD_eq_getElem?_getD, List.getElem?_eq_getElem h1, List.getElem?_eq_getElem h2] at this
 exact this
theorem at0_out {l : List Int} {j : Nat} (h : l.length ≤ j) : at0 l j = 0 := by
 unfold at0
 rw [List.getD_eq_getElem?_getD, List.getElem?_eq_none h]
 rfl
theorem at0_lt {l : List Int} {j : Nat} (h : j < l.length) : at0 l j = l[j] := by
 unfold at0
 rw [List.getD_eq_getElem?_getD, List.getElem?_eq_getElem h]
 rfl
theorem eq_of_cols : ∀ (P P' : List (List Int × Nat)), P.map (·.2) = P'.map (·.2) → (∀ p ∈ P, ∀ p' ∈ P', p.2 = p'.2 → p.1 = p'.1) → P = P'
 | [], [], _, _ => rfl
 | [], _ :: _, h, _ => by simp at h
 | _ :: _, [], h, _ => by simp at h
 | p :: P, p' :: P', h, k => by
  simp only [List.map_cons, List.cons.injEq] at h
  have e := k p (by simp) p' (by simp) h.1
  rw [eq_of_cols P P' h.2 fun q hq q' hq' => k q (by simp [hq]) q' (by simp [hq'])]
  rw [show p = p' from Prod.ext e h.1]
theorem Red.eq {S S' : V → Prop} {c n : Nat} {P P' : List (List Int × Nat)} {Q Q' : List (List Int)} (h : Red S c P Q) (hz : ∀ q ∈ Q, ∀ j, at0 q j = 0) (h' : Red S' c P' Q') (e : ∀ v, Sp S v ↔ Sp S' v)
  (hn : ∀ p ∈ P, p.1.length = n) (hn' : ∀ p ∈ P', p.1.length = n) : P = P' :=
 eq_of_cols P P' (h.cols h' e) fun p hp p' hp' hpp => at0_ext (by rw [hn p hp, hn' p' hp']) (h.row_eq hz h' (fun v hv => (e v).2 hv) (h.cols h' e) p p' hp hp' hpp)
def gcdl (l : List Int) : Nat := l.foldl (fun g x => Nat.gcd g x.natAbs) 0
theorem foldl_gcd : ∀ (l : List Int) (g : Nat), l.foldl (fun g x => Nat.gcd g x.natAbs) g = Nat.gcd g (gcdl l)
 | [], g => by simp [gcdl]
 | x :: l, g => by
  unfold gcdl
  simp only [List.foldl_cons]
  rw [foldl_gcd l, foldl_gcd l, Nat.gcd_zero_left, Nat.gcd_assoc]
theorem gcdl_cons (x : Int) (l : List Int) : gcdl (x :: l) = Nat.gcd x.natAbs (gcdl l) := by
 show List.foldl _ (Nat.gcd 0 x.natAbs) l = _
 rw [foldl_gcd, Nat.gcd_zero_left]
theorem gcdl_dvd : ∀ (l : List Int) (j : Nat), (gcdl l : Int) ∣ at0 l j
 | [], j => by simp [at0]
 | x :: l, 0 => by
  rw [gcdl_cons]
  exact Int.ofNat_dvd_left.2 (Nat.gcd_dvd_left _ _)
 | x :: l, j + 1 => by
  rw [gcdl_cons]
  have := gcdl_dvd l j
  exact Int.dvd_trans (Int.natCast_dvd_natCast.2 (Nat.gcd_dvd_right _ _)) this
theorem dvd_gcdl : ∀ (l : List Int) (d : Int), (∀ j, d ∣ at0 l j) → d.natAbs ∣ gcdl l
|[], d, _ => by simp [gcdl]
|x :: l, d, h => by
  rw [gcdl_cons]
  refine Nat.dvd_gcd (Int.natAbs_dvd_natAbs.2 (h 0)) (dvd_gcdl l d fun j => h (j + 1))
theorem gcdl_zero (l : List Int) (h : gcdl l = 0) (j : Nat) : at0 l j = 0 := by
 have := gcdl_dvd l j
 rw [h] at this
 simpa using this
def ld (l : List Int) : Nat := l.findIdx (fun x => x != 0)
theorem ld_le (l : List Int) : ld l ≤ l.length := List.findIdx_le_length
theorem ld_low (l : List Int) (j : Nat) (h : j < ld l) : at0 l j = 0 := by
 have hl := ld_le l
 have := List.not_of_lt_findIdx h
 rw [at0_lt (by omega)]
 simpa using this
theorem ld_ne (l : List Int) (h : ld l < l.length) : at0 l (ld l) ≠ 0 := by
 have := List.findIdx_getElem (w := h)
 rw [at0_lt h]
 have h2 : (l[ld l] != 0) = true := this
 simpa using h2
theorem ld_eq (l : List Int) (k : Nat) (h0 : ∀ j, j < k → at0 l j = 0) (h1 : at0 l k ≠ 0) : ld l = k := by
 have hk : k < l.length := Nat.lt_of_not_le fun h => h1 (at0_out h)
 rcases Nat.lt_trichotomy (ld l) k with h | h | h
 ·exact absurd (h0 _ h) (ld_ne l (by omega))
 ·exact h
 ·exact absurd (ld_low l k h) h1
theorem ld_zero (l : List Int) (h : ∀ j, at0 l j = 0) : ld l = l.length := by
 have hl := ld_le l
 rcases Nat.lt_or_ge (ld l) l.length with h1 | h1
 ·exact absurd (h _) (ld_ne l h1)
 ·omega
theorem zero_of_ld (l : List Int) (h : ld l = l.length) (j : Nat) : at0 l j = 0 := by
 rcases Nat.lt_or_ge j l.length with h1 | h1
 ·exact ld_low l j (by omega)
 ·exact at0_out h1
def sg (l : List Int) : Int := if at0 l (ld l) < 0 then -(gcdl l : Int) else gcdl l
def tid (l : List Int) : List Int := if gcdl l = 0 then l else l.map fun x => x / sg l
theorem tid_len (l : List Int) : (tid l).length = l.length := by
 unfold tid
 split <;> simp
theorem sg_abs (l : List Int) : (sg l).natAbs = gcdl l := by
 unfold sg
 split <;> simp
theorem sg_dvd (l : List Int) (j : Nat) : sg l ∣ at0 l j := by
 have := gcdl_dvd l j
 unfold sg
 split
 ·exact Int.neg_dvd.2 this
 ·exact this
theorem at0_map (l : List Int) (f : Int → Int) (h : f 0 = 0) (j : Nat) : at0 (l.map f) j = f (at0 l j) := by
 unfold at0
 rw [List.getD_eq_getElem?_getD, List.getD_eq_getElem?_getD, List.getElem?_map]
 cases l[j]? with
 | none => exact h.symm
 | some x => rfl
theorem tid_mul (l : List Int) (h : gcdl l ≠ 0) (j : Nat) : sg l * at0 (tid l) j = at0 l j := by
 unfold tid
 rw [if_neg h, at0_map _ _ (by simp)]
 exact Int.mul_ediv_cancel' (sg_dvd l j)
theorem sg_ne (l : List Int) (h : gcdl l ≠ 0) : sg l ≠ 0 := fun e => h (by rw [← sg_abs, e]; rfl)
theorem tid_prim (l : List Int) (h : gcdl l ≠ 0) : Prim (at0 (tid l)) := by
 intro d hd
 have h1 : (sg l * d).natAbs ∣ gcdl l := dvd_gcdl l _ fun j => by
  rw [← tid_mul l h j]
  exact Int.mul_dvd_mul_left _ (hd j)
 rw [Int.natAbs_mul, sg_abs] at h1
 have h2 : d.natAbs ∣ 1 := Nat.dvd_of_mul_dvd_mul_left (Nat.pos_of_ne_zero h) (by simpa using h1)
 exact Int.natAbs_dvd_natAbs.1 h2
theorem ld_lt (l : List Int) (h : gcdl l ≠ 0) : ld l < l.length := by
 have hl := ld_le l
 refine Nat.lt_of_not_le fun hge => h ?_
 have : (0 : Int).natAbs ∣ gcdl l := dvd_gcdl l 0 fun j => by rw [zero_of_ld l (by omega) j];exact Int.dvd_refl 0
 simpa using this
theorem tid_pos (l : List Int) (h : gcdl l ≠ 0) : 0 < at0 (tid l) (ld l) := by
 have h1 := tid_mul l h (ld l)
 have h2 := ld_ne l (ld_lt l h)
 have h3 : 0 < gcdl l := Nat.pos_of_ne_zero h
 have h4 : sg l = if at0 l (ld l) < 0 then -(gcdl l : Int) else gcdl l := rfl
 split at h4
 ·have h5 : 0 < -sg l := by omega
  refine Int.pos_of_mul_pos_right (a := -sg l) ?_ (by omega)
  rw [Int.neg_mul]
  omega
 ·have h5 : 0 < sg l := by omega
  refine Int.pos_of_mul_pos_right (a := sg l) ?_ (by omega)
  omega
theorem tid_low (l : List Int) (j : Nat) (h : j < ld l) : at0 (tid l) j = 0 := by
 have h1 := ld_low l j h
 by_cases hg : gcdl l = 0
 ·unfold tid
  rw [if_pos hg, h1]
 ·have := tid_mul l hg j
  rw [h1] at this
  exact (Int.mul_eq_zero.1 this).resolve_left (sg_ne l hg)
theorem tid_tq (l : List Int) : (∀ j, at0 (tid l) j = 0) ∨ (Prim (at0 (tid l)) ∧ ∃ k, 0 < at0 (tid l) k ∧ ∀ j, j < k → at0 (tid l) j = 0) := by
 by_cases h : gcdl l = 0
 ·left
  unfold tid
  rw [if_pos h]
  exact gcdl_zero l h
 ·exact .inr ⟨tid_prim l h, ld l, tid_pos l h, fun j hj => tid_low l j hj⟩
theorem tid_fac (l : List Int) : ∃ g, g ≠ 0 ∧ ∀ j, g * at0 (tid l) j = at0 l j := by
 by_cases h : gcdl l = 0
 ·refine ⟨1, by decide, fun j => ?_⟩
  unfold tid
  rw [if_pos h, Int.one_mul]
 ·exact ⟨sg l, sg_ne l h, tid_mul l h⟩
theorem tid_tidy (l : List Int) (hp : Prim (at0 l)) (k : Nat) (h1 : 0 < at0 l k) (h0 : ∀ j, j < k → at0 l j = 0) : tid l = l := by
 have hl : ld l = k := ld_eq l k h0 (by omega)
 have hg : (gcdl l : Int) ∣ 1 := hp _ (gcdl_dvd l)
 have hg' : gcdl l = 1 := by
  have := Int.ofNat_dvd_left.1 hg
  simpa using this
 unfold tid sg
 rw [hl, hg', if_neg (by decide), if_neg (by omega)]
 simp
def comb (r q : List Int) (k : Nat) : List Int := List.zipWith (fun x y => x * at0 q k - y * at0 r k) r q
theorem comb_len (r q : List Int) (k : Nat) (h : r.length = q.length) : (comb r q k).length = r.length := by
 unfold comb
 rw [List.length_zipWith]
 omega
theorem comb_at (r q : List Int) (k : Nat) (h : r.length = q.length) (j : Nat) : at0 (comb r q k) j = at0 r j * at0 q k - at0 q j * at0 r k := by
 rcases Nat.lt_or_ge j r.length with h1 | h1
 ·rw [at0_lt (by rw [comb_len r q k h]; exact h1), at0_lt h1, at0_lt (l := q) (j := j) (by omega)]
  unfold comb
  rw [List.getElem_zipWith]
 ·rw [at0_out (by rw [comb_len r q k h]; exact h1), at0_out h1, at0_out (l := q) (j := j) (by omega)]
  simp
def clr (k : Nat) (q r : List Int) : List Int := if at0 r k = 0 then r else tid (comb r q k)
theorem clr_len (k : Nat) (q r : List Int) (h : r.length = q.length) : (clr k q r).length = r.length := by
 unfold clr
 split
 ·rfl
 ·rw [tid_len, comb_len r q k h]
theorem clr_fac (k : Nat) (q r : List Int) (h : r.length = q.length) (hq : at0 q k ≠ 0) : ∃ g α β : Int, g ≠ 0 ∧ α ≠ 0 ∧ (∀ j, g * at0 (clr k q r) j = α * at0 r j - β * at0 q j) ∧ at0 (clr k q r) k = 0 := by
 unfold clr
 split
 ·rename_i h0
  exact ⟨1, 1, 0, by decide, by decide, fun j => by omega, h0⟩
 ·obtain ⟨g, hg, e⟩ := tid_fac (comb r q k)
  refine ⟨g, at0 q k, at0 r k, hg, hq, fun j => ?_, ?_⟩
  ·rw [e j, comb_at r q k h, Int.mul_comm (at0 q k), Int.mul_comm (at0 r k)]
  ·have := e k
   rw [comb_at r q k h, Int.mul_comm (at0 r k), Int.sub_self] at this
   exact (Int.mul_eq_zero.1 this).resolve_left hg
theorem clr_lead (k c : Nat) (q r : List Int) (h : r.length = q.length) (hc : 0 < at0 q c) (hq : ∀ j, j ≤ k → at0 q j = 0) (hr : ∀ j, j < k → at0 r j = 0) (hp : 0 < at0 r k) (hpr : Prim (at0 r)) : (∀ j, j < k → at0 (clr c q r) j = 0) ∧ 0 < at0 (clr c q r) k ∧ Prim (at0 (clr c q r)) := by
 unfold clr
 split
 ·exact ⟨hr, hp, hpr⟩
 ·have h0 : ∀ j, j < k → at0 (comb r q c) j = 0 := fun j hj => by
   rw [comb_at r q c h, hr j hj, hq j (by omega)]
   simp
  have h1 : 0 < at0 (comb r q c) k := by
   rw [comb_at r q c h, hq k (by omega)]
   have := Int.mul_pos hp hc
   omega
  have hg : gcdl (comb r q c) ≠ 0 := fun e => by
   have := gcdl_zero _ e k
   omega
  have hl := ld_eq _ k h0 (by omega)
  refine ⟨fun j hj => tid_low _ j (by omega), ?_, tid_prim _ hg⟩
  have := tid_pos _ hg
  rwa [hl] at this
theorem clr_tq (k : Nat) (q r : List Int) (h : (∀ j, at0 r j = 0) ∨ (Prim (at0 r) ∧ ∃ k, 0 < at0 r k ∧ ∀ j, j < k → at0 r j = 0)) :
  (∀ j, at0 (clr k q r) j = 0) ∨ (Prim (at0 (clr k q r)) ∧ ∃ i, 0 < at0 (clr k q r) i ∧ ∀ j, j < i → at0 (clr k q r) j = 0) := by
 unfold clr
 split
 ·exact h
 ·exact tid_tq _
theorem Red.step {S : V → Prop} {c n : Nat} {P : List (List Int × Nat)} {Q Q' : List (List Int)} (h : Red S c P Q) (hlP : ∀ p ∈ P, p.1.length = n) (hlQ : ∀ q ∈ Q, q.length = n) (q : List Int) (hc : at0 q c ≠ 0) (hq : q ∈ Q)
  (hQ : ∀ x ∈ Q, x = q ∨ x ∈ Q') (hQ' : ∀ x ∈ Q', x ∈ Q) : Red S (c + 1) ((q, c) :: P.map fun p => (clr c q p.1, p.2)) (Q'.map (clr c q)) := by
 have hst := h.st.step q c hc hq hQ hQ' (clr c q) fun r hr => clr_fac c q r (by
  rcases hr with ⟨p, hp, rfl⟩|hr
  ·rw [hlP p hp, hlQ q hq]
  ·rw [hlQ r (hQ' r hr), hlQ q hq]) hc
 have hqp : Prim (at0 q) ∧ 0 < at0 q c := by
  rcases h.tq q hq with h0|⟨hp, k, hk, hl⟩
  ·exact absurd (h0 c) hc
  ·refine ⟨hp, ?_⟩
   have h1 : c ≤ k := Nat.le_of_not_lt fun hlt => by
    have := h.low q hq k hlt
    omega
   have h2 : k ≤ c := Nat.le_of_not_lt fun hlt => hc (hl c hlt)
   have : k = c := by omega
   rw [← this]
   exact hk
 have hcl : ∀ p ∈ P, (∀ j, j < p.2 → at0 (clr c q p.1) j = 0) ∧ 0 < at0 (clr c q p.1) p.2 ∧ Prim (at0 (clr c q p.1)) := fun p hp => by
  have hn := h.ncol p hp
  exact clr_lead p.2 c q p.1 (by rw [hlP p hp, hlQ q hq]) hqp.2 (fun j hj => h.low q hq j (by omega)) (h.lead p hp) (h.pos p hp) (h.prim p hp)
 refine ⟨hst, ?_, ?_, ?_, ?_, ?_, ?_, ?_⟩
 ·intro r hr j hj
  replace hr := List.mem_map.1 hr
  obtain ⟨r, hr, rfl⟩ := hr
  have hrl := hQ' r hr
  obtain ⟨g, α, β, hg, _, e, h0⟩ := clr_fac c q r (by rw [hlQ r hrl, hlQ q hq]) hc
  by_cases ej : j = c
  ·rw [ej, h0]
  ·have := e j
   rw [h.low r hrl j (by omega), h.low q hq j (by omega)] at this
   have : g * at0 (clr c q r) j = 0 := by omega
   exact (Int.mul_eq_zero.1 this).resolve_left hg
 ·intro p hp
  replace hp := List.mem_cons.1 hp
  rcases hp with rfl|hp
  ·exact Nat.lt_succ_self _
  ·replace hp := List.mem_map.1 hp
   obtain ⟨p, hp, rfl⟩ := hp
   have := h.ncol p hp
   show p.2 < c + 1
   omega
 ·intro p hp j hj
  replace hp := List.mem_cons.1 hp
  rcases hp with rfl|hp
  ·exact h.low q hq j hj
  ·replace hp := List.mem_map.1 hp
   obtain ⟨p, hp, rfl⟩ := hp
   exact (hcl p hp).1 j hj
 ·intro p hp
  replace hp := List.mem_cons.1 hp
  rcases hp with rfl|hp
  ·exact hqp.2
  ·replace hp := List.mem_map.1 hp
   obtain ⟨p, hp, rfl⟩ := hp
   exact (hcl p hp).2.1
 ·intro p hp
  replace hp := List.mem_cons.1 hp
  rcases hp with rfl|hp
  ·exact hqp.1
  ·replace hp := List.mem_map.1 hp
   obtain ⟨p, hp, rfl⟩ := hp
   exact (hcl p hp).2.2
 ·intro r hr
  replace hr := List.mem_map.1 hr
  obtain ⟨r, hr, rfl⟩ := hr
  exact clr_tq c q r (h.tq r (hQ' r hr))
 ·simp only [List.map_cons, List.map_map]
  refine List.pairwise_cons.2 ⟨fun k hk => ?_, ?_⟩
  ·obtain ⟨p, hp, rfl⟩ := List.mem_map.1 hk
   exact h.ncol p hp
  ·exact h.sorted
theorem Red.skip {S : V → Prop} {c : Nat} {P : List (List Int × Nat)} {Q : List (List Int)} (h : Red S c P Q) (h0 : ∀ q ∈ Q, at0 q c = 0) : Red S (c + 1) P Q :=
 ⟨h.st, fun q hq j hj => by
  by_cases e : j = c
  ·rw [e]; exact h0 q hq
  ·exact h.low q hq j (by omega), fun p hp => by have := h.ncol p hp; omega, h.lead, h.pos, h.prim, h.tq, h.sorted⟩
def RowSp (m : List (List Int)) : V → Prop := fun v => ∃ r ∈ m, at0 r = v
theorem Red.start (m : List (List Int)) : Red (RowSp m) 0 [] (m.map tid) := by
 refine ⟨St.start _ _ (fun q hq => ?_) (fun v hv => ?_), fun q _ j hj => by omega, by simp, by simp, by simp, by simp, fun q hq => ?_, by simp⟩
 ·obtain ⟨r, hr, rfl⟩ := List.mem_map.1 hq
  obtain ⟨g, hg, e⟩ := tid_fac r
  exact ⟨at0 r, ⟨r, hr, rfl⟩, g, hg, e⟩
 ·obtain ⟨r, hr, rfl⟩ := hv
  obtain ⟨g, hg, e⟩ := tid_fac r
  exact ⟨tid r, List.mem_map_of_mem hr, g, hg, e⟩
 ·obtain ⟨r, hr, rfl⟩ := List.mem_map.1 hq
  exact tid_tq r
end Go.Proofs.YtojkepidkmkmpaaAlg
namespace Go.Proofs.YtojkepidkmkmpaaAlg
def bnd (m : Nat) (j : Nat) : Nat := if j < m then 2 else 1000
theorem prod_small (m : Nat) : ∀ (l : List Nat), (∀ k ∈ l, k < m) → prod (bnd m) l = 2 ^ l.length
 | [], _ => rfl
 | a :: l, h => by
  simp only [prod, List.length_cons]
  rw [prod_small m l fun k hk => h k (by simp [hk])]
  unfold bnd
  rw [if_pos (h a (by simp)), Nat.pow_succ, Nat.mul_comm]
theorem len_sorted : ∀ (l : List Nat) (c : Nat), l.Pairwise (· > ·) → (∀ k ∈ l, k < c) → l.length ≤ c
 | [], c, _, _ => by simp
 | a :: l, c, h, hc => by
  have h' := List.pairwise_cons.1 h
  have := len_sorted l a h'.2 fun k hk => h'.1 k hk
  have := hc a (by simp)
  simp only [List.length_cons]
  omega
theorem Red.len {S : V → Prop} {c : Nat} {P : List (List Int × Nat)} {Q : List (List Int)} (h : Red S c P Q) : P.length ≤ c := by
 have := len_sorted _ c h.sorted fun k hk => by
  obtain ⟨p, hp, rfl⟩ := List.mem_map.1 hk
  exact h.ncol p hp
 simpa using this
theorem fp_le : ∀ n, n < 7 → fct n * 2 ^ n ≤ 46080 ∧ fct n * 2 ^ (n - 1) * 1000 ≤ 23040000 ∧ fct (n + 1) * 2 ^ n * 1000 ≤ 322560000 ∧ fct n * 2 ^ (n - 1) * 2 ≤ 46080 := by decide
theorem bnd_le (m j : Nat) : bnd m j ≤ 1000 := by unfold bnd; split <;> omega
theorem Red.small_rest {S : V → Prop} {c m : Nat} {P : List (List Int × Nat)} {Q : List (List Int)} (h : Red S c P Q) (hb : ∀ o, S o → ∀ j, (o j).natAbs ≤ bnd m j) (hc : c ≤ m) (hm : m ≤ 6) (q : List Int) (hq : q ∈ Q) (j : Nat) : (at0 q j).natAbs ≤ 322560000 := by
 have hl := h.len
 have h1 := h.st.bound_rest (bnd m) hb q hq (by
  rcases h.tq q hq with h | h
  ·exact .inl h
  ·exact .inr h.1) j
 rw [prod_small m _ fun k hk => by
  obtain ⟨p, hp, rfl⟩ := List.mem_map.1 hk
  have := h.ncol p hp
  omega, List.length_map] at h1
 have h2 := (fp_le P.length (by omega)).2.2.1
 have h3 : fct (P.length + 1) * (bnd m j * 2 ^ P.length) ≤ fct (P.length + 1) * (1000 * 2 ^ P.length) := Nat.mul_le_mul_left _ (Nat.mul_le_mul_right _ (bnd_le m j))
 have h4 : fct (P.length + 1) * (1000 * 2 ^ P.length) = fct (P.length + 1) * 2 ^ P.length * 1000 := by
  rw [Nat.mul_comm 1000, Nat.mul_assoc]
 omega
theorem Red.small_piv {S : V → Prop} {c m : Nat} {P : List (List Int × Nat)} {Q : List (List Int)} (h : Red S c P Q) (hb : ∀ o, S o → ∀ j, (o j).natAbs ≤ bnd m j) (hc : c ≤ m) (hm : m ≤ 6) :
  ∃ D : Int, 0 < D ∧ D ≤ 46080 ∧ ∀ p ∈ P, ∃ e : Int, 0 < e ∧ D = at0 p.1 p.2 * e ∧ (∀ j, j < m → (e * at0 p.1 j).natAbs ≤ 46080) ∧ ∀ j, (e * at0 p.1 j).natAbs ≤ 23040000 := by
 have hl := h.len
 obtain ⟨D, hD, hDb, hh⟩ := h.st.bound_piv (bnd m) hb h.prim
 have hk : ∀ k ∈ P.map (·.2), k < m := fun k hk => by
  obtain ⟨p, hp, rfl⟩ := List.mem_map.1 hk
  have := h.ncol p hp
  omega
 rw [prod_small m _ hk, List.length_map] at hDb
 have h2 := fp_le P.length (by omega)
 refine ⟨D.natAbs, by omega, by omega, fun p hp => ?_⟩
 obtain ⟨e, he, hj⟩ := hh p hp
 have hpos := h.pos p hp
 have hnn : (e.natAbs : Int) * at0 p.1 p.2 = D.natAbs := by
  rw [he, Int.natAbs_mul, Int.natCast_mul, Int.mul_comm]
  congr 1
  omega
 have hj' : ∀ j, ((e.natAbs : Int) * at0 p.1 j).natAbs ≤ fct P.length * (bnd m j * 2 ^ (P.length - 1)) := fun j => by
  have := hj j
  rw [prod_small m _ fun k h => hk k (List.mem_of_mem_erase h), List.length_erase_of_mem (List.mem_map_of_mem hp), List.length_map] at this
  rw [Int.natAbs_mul] at this ⊢
  simpa using this
 have he0 : e ≠ 0 := fun e0 => hD (by rw [he, e0, Int.mul_zero])
 refine ⟨e.natAbs, by omega, by rw [← hnn, Int.mul_comm], fun j hjm => ?_, fun j => ?_⟩
 ·have h3 := hj' j
  have h4 : bnd m j = 2 := by unfold bnd;rw [if_pos hjm]
  rw [h4] at h3
  have h5 : fct P.length * (2 * 2 ^ (P.length - 1)) = fct P.length * 2 ^ (P.length - 1) * 2 := by rw [Nat.mul_comm 2, Nat.mul_assoc]
  omega
 ·have h3 := hj' j
  have h4 : fct P.length * (bnd m j * 2 ^ (P.length - 1)) ≤ fct P.length * (1000 * 2 ^ (P.length - 1)) := Nat.mul_le_mul_left _ (Nat.mul_le_mul_right _ (bnd_le m j))
  have h5 : fct P.length * (1000 * 2 ^ (P.length - 1)) = fct P.length * 2 ^ (P.length - 1) * 1000 := by rw [Nat.mul_comm 1000, Nat.mul_assoc]
  omega
theorem Red.small_piv' {S : V → Prop} {c m : Nat} {P : List (List Int × Nat)} {Q : List (List Int)} (h : Red S c P Q) (hb : ∀ o, S o → ∀ j, (o j).natAbs ≤ bnd m j) (hc : c ≤ m) (hm : m ≤ 6) (p : List Int × Nat) (hp : p ∈ P) (j : Nat) : (at0 p.1 j).natAbs ≤ 23040000 := by
 obtain ⟨D, _, _, hh⟩ := h.small_piv hb hc hm
 obtain ⟨e, he, _, _, hj⟩ := hh p hp
 have := hj j
 rw [Int.natAbs_mul] at this
 have : 1 * (at0 p.1 j).natAbs ≤ e.natAbs * (at0 p.1 j).natAbs := Nat.mul_le_mul_right _ (by omega)
 omega
end Go.Proofs.YtojkepidkmkmpaaAlg
end
