/-
  Goes on where the text before it ends.
  Conditions: none beside the given statement's own.
-/
import Derived.Test.YtojkepidkmkmpaaPROWb
set_option linter.unusedVariables false
set_option linter.unusedSimpArgs false
section
namespace Go.Proofs.Ytojkepidkmkmpaa.PFnRows
open Go.Proofs.YtojkepidkmkmpaaW.PrintWords.Aside0 renaming mk → aM
open List renaming setIfInBounds_toArray → qa, set_cons_zero → qz, set_cons_succ → qs
open Bool renaming true → tt, false → ff
open Option renaming bind_eq_some_iff → bE

open Go.RowKit Go.Proofs.YtojkepidkmkmpaaW.PrintWords Go.Proofs.YtojkepidkmkmpaaW.PrintLast Go.Proofs.YtojkepidkmkmpaaW.PrintMore
attribute [local go_sem] max2_int min2_int max_two min_two max_three min_three max_four min_four
set_option linter.unusedVariables false
set_option linter.unusedSimpArgs false
def spec_l5Any.l0 : Nat → Int → List (List Int) → List Int → Int → Int → Option ((List (List Int)) × Int × Int)
 | 0, _, _, _, _, _ => none
 | k + 1, x1, x5, x1000, x1001, x1002 => if (x5.length : Int) < 13 then ((spec_l5Row.f k x1000 x1001 x1002 x1).bind fun bt213 => (if x5.length < 5864062014805 then (spec_l5Any.l0 k x1 (x5 ++ [bt213.1]) x1000 bt213.2.1 bt213.2.2) else (none))) else (some (x5, x1001, x1002))
def spec_l5Any.f (k : Nat) (s0_0 : List Int) (s0_1 : Int) (s0_2 : Int) (a1 : Int) : Option ((List (List Int)) × Int × Int) := (spec_l5Draw.f k s0_0 s0_1 s0_2 a1).bind fun bt190 => (if (bt190.1.length : Int) = 0 then (some (bt190.1, bt190.2.1, bt190.2.2)) else ((spec_l1Below.f s0_0 bt190.2.1 bt190.2.2 9).bind fun bt195 => (if bt195.1 = 0 then (if 0 < (bt190.1.length : Int) then (if (rd_L1 bt190.1 0).length < 17592186044416 then (some ((bt190.1.set (0 : Int).toNat ((rd_L1 bt190.1 0) ++ [1])), bt195.2.1, bt195.2.2)) else (none)) else (none)) else (if bt195.1 = 1 then (if 0 < (bt190.1.length : Int) then ((spec_l1Int.f s0_0 bt195.2.1 bt195.2.2 (([3, (-3), 9223372036854775807] : List Int))).bind fun bt207 => (if 0 < ((rd_L1 bt190.1 0).length : Int) then (some ((bt190.1.set (0 : Int).toNat ((rd_L1 bt190.1 0).set (0 : Int).toNat bt207.1)), bt207.2.1, bt207.2.2)) else (none))) else (none)) else (if bt195.1 = 2 then (spec_l5Any.l0 k a1 bt190.1 s0_0 bt195.2.1 bt195.2.2) else (some (bt190.1, bt195.2.1, bt195.2.2)))))))
def spec_l5Any.T8 : Bool × List (List Nat × List Nat) := (true, [([], []), ([0], [0]), ([1], [1]), ([], []), ([], []), ([3, 4], [3, 4]), ([2, 0, 1, 2, 3, 4, 5], [2]), ([6, 5, 5, 0, 1, 2, 3, 4, 5], [5, 6])])
def spec_l5Any.B8 : List Nat := [0, 1, 3, 0, 0, 24, 63, 127]
theorem spec_l5Any.tab8 : rtab .any (opsOf Try.f100 8) = spec_l5Any.T8 := by kernel_rfl
theorem spec_l5Any.bits8 : waitsOk spec_l5Any.T8.2 spec_l5Any.B8 = true := by kernel_rfl
set_option maxHeartbeats 8000000 in
set_option maxRecDepth 100000 in
theorem spec_l5Any.calls (k : Nat) (g : Nat) (s0_0 : List Int) (s0_1 : Int) (s0_2 : Int) (a1 : Int) (r1 : List (List Int)) (r2 : Int) (r3 : Int) (w0 w : World) (hI : IsS89 w0 w g s0_0 s0_1 s0_2) (hB : Below w0.heap.size w0 w) (h : spec_l5Any.f k s0_0 s0_1 s0_2 a1 = some (r1, r2, r3)) :
 Calls Try.prog 100 #[.pointer (some ⟨g, 0, none⟩), .int .i64 a1] w fun e w' => ∃ v0_ : Value, e = .returned (v0_) ∧ Kd.S (Kd.slice 3 (Kd.int .i64)) 23 w' w.heap.size (fun _ => True) v0_ r1 ∧ IsS89 w0 w' g s0_0 r2 r3 ∧ Below w0.heap.size w0 w' ∧ KeepBut w w' g none := by
 have HI0:=aM hI;have HK:=aM (KeepBut.refl w g none);have HL:=aM hB.size;clear hI;have HW0:=aM hB.size;have HB:=aM hB;clear hB;have H:((spec_l5Draw.f k s0_0 s0_1 s0_2 a1).bind fun bt190=>(if (bt190.1.length:Int)=0 then (some (bt190.1,bt190.2.1,bt190.2.2)) else ((spec_l1Below.f s0_0 bt190.2.1 bt190.2.2 9).bind fun bt195=>(if bt195.1=0 then (if 0<(bt190.1.length:Int) then (if (rd_L1 bt190.1 0).length<17592186044416 then (some ((bt190.1.set (0:Int).toNat ((rd_L1 bt190.1 0) ++ [1])),bt195.2.1,bt195.2.2)) else (none)) else (none)) else (if bt195.1=1 then (if 0<(bt190.1.length:Int) then ((spec_l1Int.f s0_0 bt195.2.1 bt195.2.2 (([3,(-3),9223372036854775807]:List Int))).bind fun bt207=>(if 0<((rd_L1 bt190.1 0).length:Int) then (some ((bt190.1.set (0:Int).toNat ((rd_L1 bt190.1 0).set (0:Int).toNat bt207.1)),bt207.2.1,bt207.2.2)) else (none))) else (none)) else (if bt195.1=2 then (spec_l5Any.l0 k a1 bt190.1 s0_0 bt195.2.1 bt195.2.2) else (some (bt190.1,bt195.2.1,bt195.2.2))))))))=some (r1,r2,r3):=h;clear h;obtain ⟨⟨t190,t193,t194⟩,A3,H⟩:=bz H;dsimp only at H;by_cases c4:(t190.length:Int)=0
 ·rw [if_pos c4] at H;have c4b0:((t190.length:Int) == 0)=true:=beq_iff_eq.mpr c4;have c4b1:((t190.length:Int) != 0)=false:=bne_eq_false_iff_eq.mpr c4;clear c4;simp only [Option.some.injEq,Prod.mk.injEq] at H;obtain ⟨rfl,rfl,rfl⟩:=H;go_enter Try.func100,Try.ntmps100;go_wp2_with (first|((with_reducible refine gate_callee (f:=112) rfl ?_);refine gm (some 8) Try.func112 #[.pointer (some ⟨g,0,none⟩),.int .i64 a1] ?_;(with_reducible refine (spec_l5Draw.calls k g s0_0 s0_1 s0_2 a1 t190 t193 t194 w0 _ ?side1 ?side2 A3.out).mono ?_);(case side1=>repeat (first|(with_reducible first|exact HI0.out|apply IsS89.alloc|apply IsS89.drewN|apply IsS89.drew|apply IsS89.set_1|apply IsS89.set_2)|exact HI0.out));(case side2=>repeat (first|(with_reducible first|exact HB.out|apply below_alloc|apply pw_below_drewN|apply below_drew1|refine below_set ?_ (IsS89.ge HI0.out))|exact HB.out));rintro e w5 ⟨v191,rfl,ho0,hi,hb,hk⟩;refine ⟨_,rfl,?_⟩;have HO192:=aM (Kd.S_lower ho0 (keep_size (w:=w) (g:=g) (row:=none) (by repeat (first|(with_reducible first|exact HK.out|apply KeepBut.set_|apply keep_drewN|apply keep_drew|apply keep_alloc)|exact HK.out))));replace HK:=aM (KeepBut.trans (by repeat (first|(with_reducible first|exact HK.out|apply KeepBut.set_|apply keep_drewN|apply keep_drew|apply keep_alloc)|exact HK.out)) hk (.inl rfl));replace HB:=aM (hb);replace HI0:=aM (hi);(try clear hb);(try clear hb2);(try clear hk);(try clear hi);(try clear ho0);obtain ⟨Ao6,co6,eo6⟩:=Kd.S_slice HO192.out;subst eo6));go_ret;exact ⟨_,by first|rfl|(simp [errW_none,errW_some]<;>rfl)|(simp [*,errW_none,errW_some]<;>rfl),by (with_reducible repeat (first|apply Kd.S_alloc|apply Kd.S_drewN|apply Kd.S_drew));exact HO192.out,by repeat (first|(with_reducible first|exact HI0.out|apply IsS89.alloc|apply IsS89.drewN|apply IsS89.drew|apply IsS89.set_1|apply IsS89.set_2)|exact HI0.out),by repeat (first|(with_reducible first|exact HB.out|apply below_alloc|apply pw_below_drewN|apply below_drew1|refine below_set ?_ (IsS89.ge HI0.out))|exact HB.out),by repeat (first|(with_reducible first|exact HK.out|apply KeepBut.set_|apply keep_drewN|apply keep_drew|apply keep_alloc)|exact HK.out)⟩
 ·rw [if_neg c4] at H;have c4b0:((t190.length:Int) == 0)=false:=beq_eq_false_iff_ne.mpr c4;have c4b1:((t190.length:Int) != 0)=true:=bne_iff_ne.mpr c4;have c4b2:¬(t190=[]):=fun h_=>c4 (by rw [h_];rfl);obtain ⟨⟨t195,t196,t197⟩,A7,H⟩:=bz H;dsimp only at H;by_cases c8:t195=0
  ·rw [if_pos c8] at H;have c8b0:(t195 == 0)=true:=beq_iff_eq.mpr c8;have c8b1:(t195 != 0)=false:=bne_eq_false_iff_eq.mpr c8;clear c8;obtain ⟨c9b0,H⟩:=iN H;have c9:=of_decide_eq_true c9b0;have c9b1:decide (0<t190.length)=true:=decide_eq_true (by omega);clear c9;by_cases c10:(rd_L1 t190 0).length<17592186044416
   ·rw [if_pos c10] at H;have LMc10:=aM c10;clear c10;obtain ⟨y199,hy199⟩:∃y_:List Int,y_=((rd_L1 t190 0) ++ [1]):=⟨_,rfl⟩;replace H:(some ((t190.set (0:Int).toNat y199),t196,t197))=some (r1,r2,r3):=(by first|(rw [hy199];with_reducible exact H)|(have H2_:=(Option.bind_some _ _).symm.trans H;rw [hy199];with_reducible exact H2_)|(have H2_:=(Option.bind_some _ _).symm.trans H;with_reducible exact H2_)|with_reducible exact H|(rw [hy199];exact H)|exact H);have Ny199:=aM hy199;clear hy199;obtain ⟨y202,hy202⟩:∃y_:List (List Int),y_=(t190.set (0:Int).toNat y199):=⟨_,rfl⟩;replace H:(some (y202,t196,t197))=some (r1,r2,r3):=(by first|(rw [hy202];with_reducible exact H)|(have H2_:=(Option.bind_some _ _).symm.trans H;rw [hy202];with_reducible exact H2_)|(have H2_:=(Option.bind_some _ _).symm.trans H;with_reducible exact H2_)|with_reducible exact H|(rw [hy202];exact H)|exact H);have Ny202:=aM hy202;clear hy202;simp only [Option.some.injEq,Prod.mk.injEq] at H;obtain ⟨rfl,rfl,rfl⟩:=H;go_enter Try.func100,Try.ntmps100;go_wp2_with (first|((with_reducible refine gate_callee (f:=112) rfl ?_);refine gm (some 8) Try.func112 #[.pointer (some ⟨g,0,none⟩),.int .i64 a1] ?_;(with_reducible refine (spec_l5Draw.calls k g s0_0 s0_1 s0_2 a1 t190 t193 t194 w0 _ ?side1 ?side2 A3.out).mono ?_);(case side1=>repeat (first|(with_reducible first|exact HI0.out|apply IsS89.alloc|apply IsS89.drewN|apply IsS89.drew|apply IsS89.set_1|apply IsS89.set_2)|exact HI0.out));(case side2=>repeat (first|(with_reducible first|exact HB.out|apply below_alloc|apply pw_below_drewN|apply below_drew1|refine below_set ?_ (IsS89.ge HI0.out))|exact HB.out));rintro e w12 ⟨v191,rfl,ho0,hi,hb,hk⟩;refine ⟨_,rfl,?_⟩;have HO192:=aM (Kd.S_lower ho0 (keep_size (w:=w) (g:=g) (row:=none) (by repeat (first|(with_reducible first|exact HK.out|apply KeepBut.set_|apply keep_drewN|apply keep_drew|apply keep_alloc)|exact HK.out))));replace HK:=aM (KeepBut.trans (by repeat (first|(with_reducible first|exact HK.out|apply KeepBut.set_|apply keep_drewN|apply keep_drew|apply keep_alloc)|exact HK.out)) hk (.inl rfl));replace HB:=aM (hb);replace HI0:=aM (hi);(try clear hb);(try clear hb2);(try clear hk);(try clear hi);(try clear ho0);obtain ⟨Ao13,co13,eo13⟩:=Kd.S_slice HO192.out;subst eo13)|((with_reducible refine gate_callee (f:=63) rfl ?_);refine gm (some 14) Try.func63 #[.pointer (some ⟨g,0,none⟩),.int .i64 9] ?_;(with_reducible refine (spec_l1Below.calls g s0_0 t193 t194 9 t195 t196 t197 w0 _ ?side1 ?side2 A7.out).mono ?_);(case side1=>repeat (first|(with_reducible first|exact HI0.out|apply IsS89.alloc|apply IsS89.drewN|apply IsS89.drew|apply IsS89.set_1|apply IsS89.set_2)|exact HI0.out));(case side2=>repeat (first|(with_reducible first|exact HB.out|apply below_alloc|apply pw_below_drewN|apply below_drew1|refine below_set ?_ (IsS89.ge HI0.out))|exact HB.out));rintro e w14 ⟨rfl,hi,hb,hk⟩;refine ⟨_,rfl,?_⟩;replace HO192:=aM (Kd.S_mono (Kd.S_keep (IsS89.apartS (show IsS89 w0 _ g s0_0 t193 t194 from by repeat (first|(with_reducible first|exact HI0.out|apply IsS89.alloc|apply IsS89.drewN|apply IsS89.drew|apply IsS89.set_1|apply IsS89.set_2)|exact HI0.out)) (by (with_reducible repeat (first|apply Kd.S_alloc|apply Kd.S_drewN|apply Kd.S_drew));exact HO192.out) (by decide)) hk (fun _ h=>h.2)) (fun _ h=>h.1));replace HK:=aM (KeepBut.trans (by repeat (first|(with_reducible first|exact HK.out|apply KeepBut.set_|apply keep_drewN|apply keep_drew|apply keep_alloc)|exact HK.out)) hk (.inl rfl));replace HB:=aM (hb);replace HI0:=aM (hi);(try clear hb);(try clear hb2);(try clear hk);(try clear hi);have p198:0≤(0:Int):=(by omega);have q198:0<(t190.length:Int):=zd;obtain ⟨ad198,A198_0,c198_0,e198,hx198_0,hl198_0,hi198_0⟩:=at_L1 (Kd.S_reads' HO192.out).2.2 0 p198 q198;cases e198;obtain ⟨ce198,hce198,hMe198,hcc198⟩:=Kd.S_get HO192.out [] 0 p198 (by first|exact q198|exact zd|(have e_:=(Kd.S_reads' HO192.out).1;omega));obtain ⟨ve198_0,rfl,ge198_0⟩:=hMe198;have hv198_0:=hcc198 0 _ rfl;rw [Nat.add_zero,show ((Kd.slice 3 (Kd.int .i64))).sz=1 from rfl,Nat.mul_one] at hv198_0;replace hv198_0:=Option.some.inj (hv198_0.symm.trans hx198_0);rw [hv198_0] at ge198_0;have HL198_0:=aM (show Kd.R (Kd.int .i64) 3 _ _ _ _ (rd_L1 t190 0) from ge198_0);clear hv198_0 ge198_0;have HX198_0:=aM hx198_0;clear hcc198 hce198;have qi198:(0<t190.length)=True:=eq_true (by omega);(try rw [show ((0:Int)).toNat=0 from rfl] at hx198_0);(try rw [Addr.add_zero'] at hx198_0);have HR198_0:=aM hi198_0;have HC198_0:=aM hl198_0;clear hi198_0 hl198_0;replace p198:=eq_true p198;replace q198:=eq_true q198;obtain ⟨go15,co15,eo15,gb15,gl15,cl15,HG15⟩:=Kd.S_form HO192.out (by have h_:(0:Int)<((t190.length:Int):Int):=zd;have h2_:0≤(0:Int):=(by omega);omega);(first|cases eo15|(injection eo15 with ea_ en_ ec_;(first|subst ea_|(injection ea_ with ea_;subst ea_));subst ec_;clear en_));have GB15:=aM gb15;have GG15:=aM HG15;clear gb15 gl15 HG15;(first|simp only [add_plain] at hx198_0|skip);obtain ⟨oki15,ce15,hcl15,hM15,hcc15,_,_,hH15⟩:=Kd.S_elem HO192.out [] (0:Int) (by omega) (by have h_:(0:Int)<((t190.length:Int):Int):=zd;first|exact h_|(have e_:=(Kd.S_reads' HO192.out).1;omega)|simpa using h_);obtain ⟨ve15_0,rfl,ge15_0⟩:=hM15;have hv15:=hcc15 0 _ rfl;have hX15:=HX198_0.out;(try simp only [add_plain] at hX15);(try simp only [Nat.add_zero] at hv15);(try rw [show ((Kd.slice 3 (Kd.int .i64))).sz=1 from rfl,Nat.mul_one] at hv15);replace hv15:=Option.some.inj (hv15.symm.trans hX15);subst hv15;clear hX15 hcc15 hcl15;have UU15:=aM (show Kd.R (Kd.int .i64) 3 _ w.heap.size oki15 (.slice A198_0 (rd_L1 t190 0).length c198_0) (rd_L1 t190 0) from ge15_0);have HH15:=aM hH15;have HN15:=aM (Kd.S_reads' HO192.out).1;clear hH15 ge15_0)|((with_reducible refine gate_builtin (b:=.append) (xs:=#[.tmp 20,.tmp 21]) rfl ?_);at_builtin;refine Kd.R_append (Kd.int .i64) w.heap.size rfl (.tmp 20) (.tmp 21) 23 3 (.int .i64 0) 8 rfl Try.underlying23 info3 rfl (by decide) (by omega) (.slice A198_0 (rd_L1 t190 0).length c198_0) (rd_L1 t190 0) 1 [.int .i64 1] (fun k_=>oki15 k_∨((fun _=>True)) k_∧w14.heap.size≤k_) (fun _=>False) rfl rfl ?aP (fun _ hk=>hk.elim) ?aF ?aO (Below.refl _ _) ?aS ?aL ?_;(case aP=>exact rfl);(case aF=>exact (fun k_ hk=>.inr ⟨trivial,hk⟩));(case aO=>exact (by (with_reducible repeat (first|apply Kd.R_alloc|apply Kd.R_drewN|apply Kd.R_drew));exact Kd.R_mono UU15.out (fun _ hk=>.inl hk)));(case aS=>exact (keep_size (w:=w) (g:=g) (row:=none) (by repeat (first|(with_reducible first|exact HK.out|apply KeepBut.set_|apply keep_drewN|apply keep_drew|apply keep_alloc)|exact HK.out))));(case aL=>have:=LMc10.out;omega);intro v200 w16 ho hb hg hat;rw [← Ny199.out] at ho;replace HB:=aM (below_weaken (by repeat (first|(with_reducible first|exact HB.out|apply below_alloc|apply pw_below_drewN|apply below_drew1|refine below_set ?_ (IsS89.ge HI0.out))|exact HB.out)) HL.out hb);replace HI0:=aM (IsS89.grown (by repeat (first|(with_reducible first|exact HI0.out|apply IsS89.alloc|apply IsS89.drewN|apply IsS89.drew|apply IsS89.set_1|apply IsS89.set_2)|exact HI0.out)) hg (IsS89.own_ne HI0.out HL198_0.out (by decide)));replace HK:=aM (KeepBut.trans (by repeat (first|(with_reducible first|exact HK.out|apply KeepBut.set_|apply keep_drewN|apply keep_drew|apply keep_alloc)|exact HK.out)) (KeepBut.of_grown hg g) (Kd.R_base2 HL198_0.out));replace HH15:=aM (Kd.H_grown (Kd.H_widen (by repeat (first|exact HH15.out|refine Kd.H_alloc ?_ _|refine Kd.H_drewN ?_ _|refine Kd.H_drew ?_))) hg (fun k_ e_=>.inl (UU15.out.1 k_ e_)));have HO201:=aM (ho);clear HO192 UU15 HL198_0 ho hb hg hat;have p11:0≤(0:Int):=(by omega);have q11:(0:Int)<((t190.length:Int):Int):=zd;replace p11:=eq_true p11;replace q11:=eq_true q11;obtain ⟨Ao19,co19,eo19⟩:=Kd.R_slice HO201.out;subst eo19;obtain ⟨_,_,hraw17,_,_,hcc17,_⟩:=Kd.H_raw HH15.out (by omega) (by have h_:(0:Int)<((t190.length:Int):Int):=zd;first|exact h_|(have e_:=(HN15.out);omega)|simpa using h_);obtain ⟨_,hfr17⟩:=Kd.H_at HH15.out (by omega) (by have h_:(0:Int)<((t190.length:Int):Int):=zd;first|exact h_|(have e_:=(HN15.out);omega)|simpa using h_);have hx17_0:=hcc17 0 _ rfl;have hf17_0:=hfr17 0;(try simp only [Nat.add_zero] at hx17_0 hf17_0);(try rw [show ((Kd.slice 3 (Kd.int .i64))).sz=1 from rfl,Nat.mul_one] at hx17_0);(try rw [show ((Kd.slice 3 (Kd.int .i64))).sz=1 from rfl,Nat.mul_one] at hf17_0);(try rw [show ((0:Int)).toNat=0 from rfl] at hx17_0);(try simp only [Nat.reduceMul,Nat.zero_mul,Nat.zero_add,Nat.reduceAdd] at hx17_0);(try rw [show ((0:Int)).toNat=0 from rfl] at hf17_0);(try simp only [Nat.reduceMul,Nat.zero_mul,Nat.zero_add,Nat.reduceAdd] at hf17_0);have HP17:=Kd.S_seg0 HH15.out (by omega) (by have h_:(0:Int)<((t190.length:Int):Int):=zd;first|exact h_|(have e_:=(HN15.out);omega)|simpa using h_) (seg:=[.slice Ao19 y199.length co19]) (j:=0) (show 1≤1 from by decide) (x':=y199) (Kd.M_row HO201.out) (fun _ hk=>hk);(try simp only [show ((Kd.slice 3 (Kd.int .i64))).sz=1 from rfl,Nat.mul_one,Nat.add_zero] at HP17);clear hcc17 hfr17)|((with_reducible refine gate_store (t:=23) (p:=23) rfl ?_);refine store_event (t:=23) (p:=23) (v:=?vo_w18) (w1:=(w16.setCell ⟨go15,(0:Int).toNat,none⟩ (.slice Ao19 y199.length co19))) ?hg ?ho ?hn ?hr ?_;(case ho=>rfl);(case hg=>rfl);(case hn=>rfl);(case hr=>first|(go_simp;done)|(go_simp;rfl));intro w18 hw;have hg:w16.grownBy w18 (some go15):=(by rw [hw];exact HP17.2);have hp_:Kd.S (Kd.slice 3 (Kd.int .i64)) 23 w18 w.heap.size (fun _=>True) (.slice (some ⟨go15,0,none⟩) t190.length co13) y202:=(by rw [hw,Ny202.out];exact HP17.1);clear HP17;replace HI0:=aM (IsS89.grown (by repeat (first|(with_reducible first|exact HI0.out|apply IsS89.alloc|apply IsS89.drewN|apply IsS89.drew|apply IsS89.set_1|apply IsS89.set_2)|exact HI0.out)) hg (IsS89.own_ne HI0.out hraw17 (by decide)));replace HB:=aM ((by rw [hw];exact below_set HB.out (Nat.le_trans HL.out GB15.out):Below w0.heap.size w0 w18));replace HK:=aM (KeepBut.trans (by repeat (first|(with_reducible first|exact HK.out|apply KeepBut.set_|apply keep_drewN|apply keep_drew|apply keep_alloc)|exact HK.out)) (KeepBut.of_grown hg g) (Kd.R_base2 hraw17));have HO192:=aM (hp_);clear HO201 HH15 hg hw hp_ hraw17));go_ret;exact ⟨_,by first|rfl|(simp [errW_none,errW_some]<;>rfl)|(simp [*,errW_none,errW_some]<;>rfl),by (with_reducible repeat (first|apply Kd.S_alloc|apply Kd.S_drewN|apply Kd.S_drew));exact HO192.out,by repeat (first|(with_reducible first|exact HI0.out|apply IsS89.alloc|apply IsS89.drewN|apply IsS89.drew|apply IsS89.set_1|apply IsS89.set_2)|exact HI0.out),by repeat (first|(with_reducible first|exact HB.out|apply below_alloc|apply pw_below_drewN|apply below_drew1|refine below_set ?_ (IsS89.ge HI0.out))|exact HB.out),by repeat (first|(with_reducible first|exact HK.out|apply KeepBut.set_|apply keep_drewN|apply keep_drew|apply keep_alloc)|exact HK.out)⟩
   ·rw [if_neg c10] at H;exact absurd H (by simp)
  ·rw [if_neg c8] at H;have c8b0:(t195 == 0)=false:=beq_eq_false_iff_ne.mpr c8;have c8b1:(t195 != 0)=true:=bne_iff_ne.mpr c8;by_cases c20:t195=1
   ·rw [if_pos c20] at H;have c20b0:(t195 == 1)=true:=beq_iff_eq.mpr c20;have c20b1:(t195 != 1)=false:=bne_eq_false_iff_eq.mpr c20;clear c20;obtain ⟨c21b0,H⟩:=iN H;have c21:=of_decide_eq_true c21b0;have c21b1:decide (0<t190.length)=true:=decide_eq_true (by omega);clear c21;obtain ⟨y204,hy204⟩:∃y_:List Int,y_=(([3,(-3),9223372036854775807]:List Int)):=⟨_,rfl⟩;replace H:((spec_l1Int.f s0_0 t196 t197 y204).bind fun bt207=>(if 0<((rd_L1 t190 0).length:Int) then (some ((t190.set (0:Int).toNat ((rd_L1 t190 0).set (0:Int).toNat bt207.1)),bt207.2.1,bt207.2.2)) else (none)))=some (r1,r2,r3):=(by first|(rw [hy204];with_reducible exact H)|(have H2_:=(Option.bind_some _ _).symm.trans H;rw [hy204];with_reducible exact H2_)|(have H2_:=(Option.bind_some _ _).symm.trans H;with_reducible exact H2_)|with_reducible exact H|(rw [hy204];exact H)|exact H);have Ny204:=aM hy204;clear hy204;obtain ⟨⟨t207,t208,t209⟩,A22,H⟩:=bz H;dsimp only at H;obtain ⟨c23b0,H⟩:=iN H;have c23:=of_decide_eq_true c23b0;have c23b1:decide (0<(rd_L1 t190 0).length)=true:=decide_eq_true (by omega);clear c23;obtain ⟨y210,hy210⟩:∃y_:List Int,y_=((rd_L1 t190 0).set (0:Int).toNat t207):=⟨_,rfl⟩;replace H:(some ((t190.set (0:Int).toNat y210),t208,t209))=some (r1,r2,r3):=(by first|(rw [hy210];with_reducible exact H)|(have H2_:=(Option.bind_some _ _).symm.trans H;rw [hy210];with_reducible exact H2_)|(have H2_:=(Option.bind_some _ _).symm.trans H;with_reducible exact H2_)|with_reducible exact H|(rw [hy210];exact H)|exact H);have Ny210:=aM hy210;clear hy210;obtain ⟨y212,hy212⟩:∃y_:List (List Int),y_=(t190.set (0:Int).toNat y210):=⟨_,rfl⟩;replace H:(some (y212,t208,t209))=some (r1,r2,r3):=(by first|(rw [hy212];with_reducible exact H)|(have H2_:=(Option.bind_some _ _).symm.trans H;rw [hy212];with_reducible exact H2_)|(have H2_:=(Option.bind_some _ _).symm.trans H;with_reducible exact H2_)|with_reducible exact H|(rw [hy212];exact H)|exact H);have Ny212:=aM hy212;clear hy212;simp only [Option.some.injEq,Prod.mk.injEq] at H;obtain ⟨rfl,rfl,rfl⟩:=H;go_enter Try.func100,Try.ntmps100;(try go_wp2_with (first|((with_reducible refine gate_callee (f:=112) rfl ?_);refine gm (some 8) Try.func112 #[.pointer (some ⟨g,0,none⟩),.int .i64 a1] ?_;(with_reducible refine (spec_l5Draw.calls k g s0_0 s0_1 s0_2 a1 t190 t193 t194 w0 _ ?side1 ?side2 A3.out).mono ?_);(case side1=>repeat (first|(with_reducible first|exact HI0.out|apply IsS89.alloc|apply IsS89.drewN|apply IsS89.drew|apply IsS89.set_1|apply IsS89.set_2)|exact HI0.out));(case side2=>repeat (first|(with_reducible first|exact HB.out|apply below_alloc|apply pw_below_drewN|apply below_drew1|refine below_set ?_ (IsS89.ge HI0.out))|exact HB.out));rintro e w25 ⟨v191,rfl,ho0,hi,hb,hk⟩;refine ⟨_,rfl,?_⟩;have HO192:=aM (Kd.S_lower ho0 (keep_size (w:=w) (g:=g) (row:=none) (by repeat (first|(with_reducible first|exact HK.out|apply KeepBut.set_|apply keep_drewN|apply keep_drew|apply keep_alloc)|exact HK.out))));replace HK:=aM (KeepBut.trans (by repeat (first|(with_reducible first|exact HK.out|apply KeepBut.set_|apply keep_drewN|apply keep_drew|apply keep_alloc)|exact HK.out)) hk (.inl rfl));replace HB:=aM (hb);replace HI0:=aM (hi);(try clear hb);(try clear hb2);(try clear hk);(try clear hi);(try clear ho0);obtain ⟨Ao26,co26,eo26⟩:=Kd.S_slice HO192.out;subst eo26)|((with_reducible refine gate_callee (f:=63) rfl ?_);refine gm (some 14) Try.func63 #[.pointer (some ⟨g,0,none⟩),.int .i64 9] ?_;(with_reducible refine (spec_l1Below.calls g s0_0 t193 t194 9 t195 t196 t197 w0 _ ?side1 ?side2 A7.out).mono ?_);(case side1=>repeat (first|(with_reducible first|exact HI0.out|apply IsS89.alloc|apply IsS89.drewN|apply IsS89.drew|apply IsS89.set_1|apply IsS89.set_2)|exact HI0.out));(case side2=>repeat (first|(with_reducible first|exact HB.out|apply below_alloc|apply pw_below_drewN|apply below_drew1|refine below_set ?_ (IsS89.ge HI0.out))|exact HB.out));rintro e w27 ⟨rfl,hi,hb,hk⟩;refine ⟨_,rfl,?_⟩;replace HO192:=aM (Kd.S_mono (Kd.S_keep (IsS89.apartS (show IsS89 w0 _ g s0_0 t193 t194 from by repeat (first|(with_reducible first|exact HI0.out|apply IsS89.alloc|apply IsS89.drewN|apply IsS89.drew|apply IsS89.set_1|apply IsS89.set_2)|exact HI0.out)) (by (with_reducible repeat (first|apply Kd.S_alloc|apply Kd.S_drewN|apply Kd.S_drew));exact HO192.out) (by decide)) hk (fun _ h=>h.2)) (fun _ h=>h.1));replace HK:=aM (KeepBut.trans (by repeat (first|(with_reducible first|exact HK.out|apply KeepBut.set_|apply keep_drewN|apply keep_drew|apply keep_alloc)|exact HK.out)) hk (.inl rfl));replace HB:=aM (hb);replace HI0:=aM (hi);(try clear hb);(try clear hb2);(try clear hk);(try clear hi))));replace HO192:=aM (Kd.S_drew HO192.out);replace HI0:=aM (IsS89.drew HI0.out);replace HK:=aM (keep_drew HK.out);replace HB:=aM (below_drew1 HB.out);have p203:0≤(0:Int):=(by omega);have q203:0<(t190.length:Int):=zd;obtain ⟨ad203,A203_0,c203_0,e203,hx203_0,hl203_0,hi203_0⟩:=at_L1 (Kd.S_reads' HO192.out).2.2 0 p203 q203;cases e203;obtain ⟨ce203,hce203,hMe203,hcc203⟩:=Kd.S_get HO192.out [] 0 p203 (by first|exact q203|exact zd|(have e_:=(Kd.S_reads' HO192.out).1;omega));obtain ⟨ve203_0,rfl,ge203_0⟩:=hMe203;have hv203_0:=hcc203 0 _ rfl;rw [Nat.add_zero,show ((Kd.slice 3 (Kd.int .i64))).sz=1 from rfl,Nat.mul_one] at hv203_0;replace hv203_0:=Option.some.inj (hv203_0.symm.trans hx203_0);rw [hv203_0] at ge203_0;have HL203_0:=aM (show Kd.R (Kd.int .i64) 3 _ _ _ _ (rd_L1 t190 0) from ge203_0);clear hv203_0 ge203_0;have HX203_0:=aM hx203_0;clear hcc203 hce203;have qi203:(0<t190.length)=True:=eq_true (by omega);(try rw [show ((0:Int)).toNat=0 from rfl] at hx203_0);(try rw [Addr.add_zero'] at hx203_0);have HR203_0:=aM hi203_0;have HC203_0:=aM hl203_0;clear hi203_0 hl203_0;replace p203:=eq_true p203;replace q203:=eq_true q203;refine start_ (n:=8) (S:=fun w'=>w'.cell? ad203=some (.slice A203_0 (rd_L1 t190 0).length c203_0)) (ds:=[7]) #[ff,ff,ff,ff,ff,ff,ff,ff] (by kernel_rfl) rfl rfl (hx203_0) (fun hHeld=>?_);refine with_tabW spec_l5Any.tab8 spec_l5Any.bits8 (fun HT_ HW_=>?_);generalize w27.drew=w28 at HO192 HI0 HK HB HL203_0 HR203_0 HX203_0 hx203_0 hHeld ⊢;refine pu 0 (some 26) #[tt,ff,ff,ff,ff,ff,ff,ff] rfl rfl HT_ ?_;refine pu 1 (some 27) #[tt,tt,ff,ff,ff,ff,ff,ff] rfl rfl HT_ ?_;refine pu 3 (some 29) #[tt,tt,ff,tt,ff,ff,ff,ff] rfl rfl HT_ ?_;refine take_ (i:=2) (N:=some 28) (v:=?_) (a':=?_) #[tt,tt,tt,tt,ff,ff,ff,ff] rfl rfl (take_ofW HT_.out HW_.out (by kernel_rfl)) (fun _ _ _ h=>h) (Or.inl ⟨by rfl,?_⟩) hHeld ?_ ?_;rotate_left
    ·intro w' s0;go_simp;(with_reducible rfl)
    rotate_left
    ·simp only [Act.put,qa,qz,qs,i64_w,i32_w];rfl
    refine one_ (i:=4) (N:=some 30) #[tt,tt,tt,tt,tt,ff,ff,ff] rfl rfl (one_of HT_.out (by kernel_rfl)) (by decide) (fun K hK=>?_);refine Kd.R_lit_step (Kd.int .i64) _ 3 ?hg (N:=30) ?hd (xs:=([3,(-3),9223372036854775807]:List Int)) (inner:=[.int .i64 3,.int .i64 (-3),.int .i64 9223372036854775807]) (ok:=fun _=>True) (okp:=fun _=>True) ?hr ?hp (fun _ hk=>hk) trivial (Below.refl _ _) (Nat.le_refl _) (by simp) ?_;(case hd=>rfl);(case hg=>rfl);(case hr=>first|(go_simp;done)|(go_simp;rfl));(case hp=>exact (Reps.one (show Kd.M (Kd.int .i64) _ _ _ 3 [.int .i64 3] from rfl) (Reps.one (show Kd.M (Kd.int .i64) _ _ _ (-3) [.int .i64 (-3)] from rfl) (Reps.one (show Kd.M (Kd.int .i64) _ _ _ 9223372036854775807 [.int .i64 9223372036854775807] from rfl) (Reps.none _ _)))));intro v205 w29 ho30 hb hg_ hnew_;have HS0_:=(hb.cell (World.block_lt_of_cell? _ _ (hHeld))).trans (hHeld);clear hg_ hnew_;(first|rw [← Ny204.out] at ho30|(simp only [Int.reduceToNat] at ho30;rw [← Ny204.out] at ho30));replace HO192:=aM (Kd.S_elder' (by (with_reducible repeat (first|apply Kd.S_alloc|apply Kd.S_drewN|apply Kd.S_drew));exact HO192.out) (Kd.R_base ho30) hb);have HO206:=aM (Kd.R_lower (Kd.R_new' ho30 (Kd.R_lt (zr HL203_0.out))) (keep_size (w:=w) (g:=g) (row:=none) (by repeat (first|(with_reducible first|exact HK.out|apply KeepBut.set_|apply keep_drewN|apply keep_drew|apply keep_alloc)|exact HK.out))));replace HL203_0:=aM (Kd.R_elder' (zr HL203_0.out) (Kd.R_base ho30) hb);replace HR203_0:=aM (Kd.C_below (zc HR203_0.out) hb);replace HX203_0:=aM (pw_cell_below hb HX203_0.out);replace HK:=aM (KeepBut.trans (by repeat (first|(with_reducible first|exact HK.out|apply KeepBut.set_|apply keep_drewN|apply keep_drew|apply keep_alloc)|exact HK.out)) (KeepBut.of_below hb g none) (.inl rfl));replace HB:=aM (below_step (by repeat (first|(with_reducible first|exact HB.out|apply below_alloc|apply pw_below_drewN|apply below_drew1|refine below_set ?_ (IsS89.ge HI0.out))|exact HB.out)) hb);replace HI0:=aM (IsS89.below (by repeat (first|(with_reducible first|exact HI0.out|apply IsS89.alloc|apply IsS89.drewN|apply IsS89.drew|apply IsS89.set_1|apply IsS89.set_2)|exact HI0.out)) hb);clear hb ho30;obtain ⟨Ao31,co31,eo31⟩:=Kd.R_slice HO206.out;(first|subst eo31|(injection eo31 with f1_ f2_ f3_;have f4_:=f1_.symm;have f5_:=f3_.symm;clear f1_ f2_ f3_;subst f4_;subst f5_));refine hK.out _ _ (HS0_) (fun hHeld=>?_);clear hK K;refine norm_ (a':=?_) ?_ ?_;rotate_left
    ·show Act.put _ (some 30) _=_;simp only [Act.put,qa,qz,qs,i64_w,i32_w];rfl
    refine one_ (i:=5) (N:=some 31) #[tt,tt,tt,tt,tt,tt,ff,ff] rfl rfl (one_of HT_.out (by kernel_rfl)) (by decide) (fun K hK=>?_);refine gs Try.func101 #[.pointer (some ⟨g,0,none⟩),.slice Ao31 y204.length co31] ?_;(with_reducible refine (spec_l1Int.calls g s0_0 t196 t197 _ _ y204 t207 t208 t209 w0 _ ?side1 ?side2 ?side3 ?side4 ?side5 A22.out).mono ?_);(case side1=>repeat (first|(with_reducible first|exact HI0.out|apply IsS89.alloc|apply IsS89.drewN|apply IsS89.drew|apply IsS89.set_1|apply IsS89.set_2)|exact HI0.out));(case side2=>repeat (first|(with_reducible first|exact HB.out|apply below_alloc|apply pw_below_drewN|apply below_drew1|refine below_set ?_ (IsS89.ge HI0.out))|exact HB.out));(case side3=>exact zc (Kd.R_reads' HO206.out).2.2);(case side4=>exact (Kd.R_reads' HO206.out).2.1);(case side5=>exact far_slice (IsS89.own_ne HI0.out HO206.out (by decide)));rintro e w32 ⟨rfl,hi,hb,hk⟩;have HS0_:=keep_cell hk (hHeld) (by first|(rw [add_block];exact Kd.own_blk (IsS89.own_neS HI0.out HO192.out (by decide)))|(show (Addr.add _ _).block≠_;rw [add_block];exact Kd.own_blk (IsS89.own_neS HI0.out HO192.out (by decide)))|exact Kd.own_blk (IsS89.own_neS HI0.out HO192.out (by decide)));refine ⟨_,rfl,?_⟩;replace HL203_0:=aM (Kd.R_mono (Kd.R_keep (IsS89.apart (show IsS89 w0 _ g s0_0 t196 t197 from by repeat (first|(with_reducible first|exact HI0.out|apply IsS89.alloc|apply IsS89.drewN|apply IsS89.drew|apply IsS89.set_1|apply IsS89.set_2)|exact HI0.out)) (zr HL203_0.out) (by decide)) hk (fun _ h=>h.2)) (fun _ h=>h.1));replace HX203_0:=aM (keep_cell hk HX203_0.out (by first|(rw [add_block];exact Kd.own_blk (IsS89.own_neS HI0.out HO192.out (by decide)))|(show (Addr.add _ _).block≠_;rw [add_block];exact Kd.own_blk (IsS89.own_neS HI0.out HO192.out (by decide)))|exact Kd.own_blk (IsS89.own_neS HI0.out HO192.out (by decide))|(dsimp only;exact Kd.own_blk (IsS89.own_neS HI0.out HO192.out (by decide)))));replace HO192:=aM (Kd.S_mono (Kd.S_keep (IsS89.apartS (show IsS89 w0 _ g s0_0 t196 t197 from by repeat (first|(with_reducible first|exact HI0.out|apply IsS89.alloc|apply IsS89.drewN|apply IsS89.drew|apply IsS89.set_1|apply IsS89.set_2)|exact HI0.out)) (by (with_reducible repeat (first|apply Kd.S_alloc|apply Kd.S_drewN|apply Kd.S_drew));exact HO192.out) (by decide)) hk (fun _ h=>h.2)) (fun _ h=>h.1));replace HO206:=aM (Kd.R_mono (Kd.R_keep (IsS89.apart (show IsS89 w0 _ g s0_0 t196 t197 from by repeat (first|(with_reducible first|exact HI0.out|apply IsS89.alloc|apply IsS89.drewN|apply IsS89.drew|apply IsS89.set_1|apply IsS89.set_2)|exact HI0.out)) (zr HO206.out) (by decide)) hk (fun _ h=>h.2)) (fun _ h=>h.1));replace HK:=aM (KeepBut.trans (by repeat (first|(with_reducible first|exact HK.out|apply KeepBut.set_|apply keep_drewN|apply keep_drew|apply keep_alloc)|exact HK.out)) hk (.inl rfl));replace HB:=aM (hb);replace HI0:=aM (hi);(try clear hb);(try clear hb2);(try clear hk);(try clear hi);have p24:0≤(0:Int):=(by omega);have q24:(0:Int)<(((rd_L1 t190 0).length:Int):Int):=zd;have qi24:(0<(rd_L1 t190 0).length)=True:=eq_true (by omega);obtain ⟨go24,co24,eo24,gb24,gl24,cl24,HG24⟩:=Kd.R_form HL203_0.out (by omega);(first|cases eo24|(injection eo24 with ea_ en_ ec_;(first|subst ea_|(injection ea_ with ea_;subst ea_));subst ec_;clear en_));have GB24:=aM gb24;have GG24:=aM HG24;clear gb24 gl24 HG24;obtain ⟨hx24_0,hf24_0⟩:=Kd.R_celln 0 HL203_0.out (0:Int) p24 q24;(try rw [show ((0:Int)).toNat=0 from rfl] at hx24_0);(try simp only [Nat.reduceMul,Nat.zero_mul,Nat.zero_add,Nat.reduceAdd] at hx24_0);(try rw [show ((0:Int)).toNat=0 from rfl] at hf24_0);(try simp only [Nat.reduceMul,Nat.zero_mul,Nat.zero_add,Nat.reduceAdd] at hf24_0);replace p24:=eq_true p24;replace q24:=eq_true q24;have n_:=aM (Kd.S_mono (ok':=(fun k_=>some k_≠(.slice Ao31 y204.length co31:Value).ownBlock)) HO192.out (fun k_ hk=>hk.2));clear HO192;have HO192:=n_;clear n_;have hq33:(0:Int)<(t190.length:Int):=(by have h_:(0:Int)<((t190.length:Int):Int):=zd;first|exact h_|(have e_:=(Kd.S_reads' HO192.out).1;omega)|simpa only [List.length_set,List.length_set] using h_);obtain ⟨oki33,ce33,hcl33,hM33,hcc33,hok33,hbk33⟩:=Kd.S_borrow HO192.out [] (0:Int) (by omega) hq33;obtain ⟨ve33_0,rfl,ge33_0⟩:=hM33;have hv33:=hcc33 0 _ rfl;rw [Nat.add_zero,show ((Kd.slice 3 (Kd.int .i64))).sz=1 from rfl,Nat.mul_one] at hv33;replace hv33:=Option.some.inj (hv33.symm.trans HX203_0.out);subst hv33;clear hcc33 hcl33;replace ge33_0:=(show Kd.R (Kd.int .i64) 3 _ _ _ _ (rd_L1 t190 0) from ge33_0);have HP33:=Kd.R_putg ge33_0 (0:Int) t207;have HN0_go24:=aM (show g≠go24 from by have h_:=IsS89.own_ne HI0.out HL203_0.out (by decide);intro e_;exact h_ (by rw [e_];rfl));rw [← Ny210.out] at HP33;have HS33:=hbk33 HP33.2 (fun k_ e_=>by injection e_ with e_;subst e_;exact ge33_0.1 _ rfl) (x':=y210) (Kd.M_row HP33.1);rw [← Ny212.out] at HS33;have HQ33:=aM HS33;clear HP33 HS33 hbk33 hok33;refine hK.out _ _ (HS0_) (fun hHeld=>?_);clear hK K;refine norm_ (a':=?_) ?_ ?_;rotate_left
    ·show Act.put _ (some 31) _=_;simp only [Act.put,qa,qz,qs,i64_w,i32_w];rfl
    refine pu 6 (some 32) #[tt,tt,tt,tt,tt,tt,tt,ff] rfl rfl HT_ ?_;refine last_ (i:=7) (N:=none) #[tt,tt,tt,tt,tt,tt,tt,tt] rfl rfl (one_of HT_.out (by kernel_rfl)) (by decide) (fun K hK=>?_);refine skip_ (w1:=?_) (by rfl) rfl ?_ ?_;rotate_left
    ·go_simp;rfl
    refine hK.out _ _ ?_;clear hK K;refine done_ (done_of HT_.out (by kernel_rfl)) ?_;(try go_wp2);go_ret;exact ⟨_,by first|rfl|(simp [errW_none,errW_some]<;>rfl)|(simp [*,errW_none,errW_some]<;>rfl),by (with_reducible repeat (first|apply Kd.S_alloc|apply Kd.S_drewN|apply Kd.S_drew));exact Kd.S_mono HQ33.out (fun _ hk=>trivial),by repeat (first|(with_reducible first|exact HI0.out|apply IsS89.alloc|apply IsS89.drewN|apply IsS89.drew|apply IsS89.set_1|apply IsS89.set_2|refine IsS89.far ?_ HN0_go24.out _)|exact HI0.out),by repeat (first|(with_reducible first|exact HB.out|apply below_alloc|apply pw_below_drewN|apply below_drew1|refine below_set ?_ (Nat.le_trans HL.out GB24.out)|refine below_set ?_ (IsS89.ge HI0.out))|exact HB.out),by repeat (first|(with_reducible first|exact HK.out|apply KeepBut.set_|apply keep_drewN|apply keep_drew|apply keep_alloc|refine keep_far ?_ GB24.out _)|exact HK.out)⟩
   ·rw [if_neg c20] at H;have c20b0:(t195 == 1)=false:=beq_eq_false_iff_ne.mpr c20;have c20b1:(t195 != 1)=true:=bne_iff_ne.mpr c20;by_cases c35:t195=2
    ·rw [if_pos c35] at H;have c35b0:(t195 == 2)=true:=beq_iff_eq.mpr c35;have c35b1:(t195 != 2)=false:=bne_eq_false_iff_eq.mpr c35;clear c35;have H':=aM H;clear H;go_enter Try.func100,Try.ntmps100;go_wp2_with (first|((with_reducible refine gate_callee (f:=112) rfl ?_);refine gm (some 8) Try.func112 #[.pointer (some ⟨g,0,none⟩),.int .i64 a1] ?_;(with_reducible refine (spec_l5Draw.calls k g s0_0 s0_1 s0_2 a1 t190 t193 t194 w0 _ ?side1 ?side2 A3.out).mono ?_);(case side1=>repeat (first|(with_reducible first|exact HI0.out|apply IsS89.alloc|apply IsS89.drewN|apply IsS89.drew|apply IsS89.set_1|apply IsS89.set_2)|exact HI0.out));(case side2=>repeat (first|(with_reducible first|exact HB.out|apply below_alloc|apply pw_below_drewN|apply below_drew1|refine below_set ?_ (IsS89.ge HI0.out))|exact HB.out));rintro e w36 ⟨v191,rfl,ho0,hi,hb,hk⟩;refine ⟨_,rfl,?_⟩;have HO192:=aM (Kd.S_lower ho0 (keep_size (w:=w) (g:=g) (row:=none) (by repeat (first|(with_reducible first|exact HK.out|apply KeepBut.set_|apply keep_drewN|apply keep_drew|apply keep_alloc)|exact HK.out))));replace HK:=aM (KeepBut.trans (by repeat (first|(with_reducible first|exact HK.out|apply KeepBut.set_|apply keep_drewN|apply keep_drew|apply keep_alloc)|exact HK.out)) hk (.inl rfl));replace HB:=aM (hb);replace HI0:=aM (hi);(try clear hb);(try clear hb2);(try clear hk);(try clear hi);(try clear ho0);obtain ⟨Ao37,co37,eo37⟩:=Kd.S_slice HO192.out;subst eo37)|((with_reducible refine gate_callee (f:=63) rfl ?_);refine gm (some 14) Try.func63 #[.pointer (some ⟨g,0,none⟩),.int .i64 9] ?_;(with_reducible refine (spec_l1Below.calls g s0_0 t193 t194 9 t195 t196 t197 w0 _ ?side1 ?side2 A7.out).mono ?_);(case side1=>repeat (first|(with_reducible first|exact HI0.out|apply IsS89.alloc|apply IsS89.drewN|apply IsS89.drew|apply IsS89.set_1|apply IsS89.set_2)|exact HI0.out));(case side2=>repeat (first|(with_reducible first|exact HB.out|apply below_alloc|apply pw_below_drewN|apply below_drew1|refine below_set ?_ (IsS89.ge HI0.out))|exact HB.out));rintro e w38 ⟨rfl,hi,hb,hk⟩;refine ⟨_,rfl,?_⟩;replace HO192:=aM (Kd.S_mono (Kd.S_keep (IsS89.apartS (show IsS89 w0 _ g s0_0 t193 t194 from by repeat (first|(with_reducible first|exact HI0.out|apply IsS89.alloc|apply IsS89.drewN|apply IsS89.drew|apply IsS89.set_1|apply IsS89.set_2)|exact HI0.out)) (by (with_reducible repeat (first|apply Kd.S_alloc|apply Kd.S_drewN|apply Kd.S_drew));exact HO192.out) (by decide)) hk (fun _ h=>h.2)) (fun _ h=>h.1));replace HK:=aM (KeepBut.trans (by repeat (first|(with_reducible first|exact HK.out|apply KeepBut.set_|apply keep_drewN|apply keep_drew|apply keep_alloc)|exact HK.out)) hk (.inl rfl));replace HB:=aM (hb);replace HI0:=aM (hi);(try clear hb);(try clear hb2);(try clear hk);(try clear hi)));go_loopg [5] k (fun kq v5 w'=>∃(x5_1:List (List Int)) (x1001_1:Int) (x1002_1:Int),Aside0 (spec_l5Any.l0 kq a1 x5_1 s0_0 x1001_1 x1002_1=some (r1,r2,r3))∧Aside0 (kq≤k)∧Aside0 (Kd.S (Kd.slice 3 (Kd.int .i64)) 23 w' w.heap.size (fun _=>True) v5 x5_1)∧Aside0 (IsS89 w0 w' g s0_0 x1001_1 x1002_1)∧Aside0 (KeepBut w w' g none)∧Aside0 (Below w0.heap.size w0 w'));(case atStart=>exact ⟨(t190),(t196),(t197),H',⟨Nat.le_refl _⟩,⟨by (with_reducible repeat (first|apply Kd.S_alloc|apply Kd.S_drewN|apply Kd.S_drew));exact HO192.out⟩,⟨by repeat (first|(with_reducible first|exact HI0.out|apply IsS89.alloc|apply IsS89.drewN|apply IsS89.drew|apply IsS89.set_1|apply IsS89.set_2)|exact HI0.out)⟩,⟨by repeat (first|(with_reducible first|exact HK.out|apply KeepBut.set_|apply keep_drewN|apply keep_drew|apply keep_alloc)|exact HK.out)⟩,⟨by repeat (first|(with_reducible first|exact HB.out|apply below_alloc|apply pw_below_drewN|apply below_drew1|refine below_set ?_ (IsS89.ge HI0.out))|exact HB.out)⟩⟩)
     case round=>
      clear H';(try clear c1);(try clear p1);(try clear q1);(try clear hx1);(try clear qi1);(try clear c2);(try clear p2);(try clear q2);(try clear hx2);(try clear qi2);(try clear hf2);(try clear c3);(try clear q3);(try clear c4);(try clear c4b0);(try clear c4b1);(try clear c4b2);(try clear c6);(try clear c8);(try clear c8b0);(try clear c8b1);(try clear c9);(try clear c9b0);(try clear c9b1);(try clear c10);(try clear c11);(try clear p11);(try clear q11);(try clear c15);(try clear c17);(try clear hx17);(try clear hf17);(try clear c19);(try clear p19);(try clear q19);(try clear hx19);(try clear qi19);(try clear c20);(try clear c20b0);(try clear c20b1);(try clear p20);(try clear q20);(try clear hx20);(try clear qi20);(try clear c21);(try clear c21b0);(try clear c21b1);(try clear c23);(try clear c23b0);(try clear c23b1);(try clear p24);(try clear q24);(try clear hx24);(try clear qi24);(try clear hf24);(try clear c33);(try clear q33);(try clear c35);(try clear c35b0);(try clear c35b1);(try clear hx17_0);(try clear hx198_0);(try clear hx203_0);(try clear hx24_0);(try clear p11);(try clear p198);(try clear p203);(try clear p24);(try clear q11);(try clear q198);(try clear q203);(try clear q24);obtain ⟨x5_1,x1001_1,x1002_1,HA,HK1,HO_5,HI0,HK,HB⟩:=hrel;cases gk with
      | zero=>exact absurd HA.out (by simp [spec_l5Any.l0])
      | succ k1=>
       have H:=HA.out;clear HA;simp only [spec_l5Any.l0] at H;by_cases c39:(x5_1.length:Int)<13
       ·rw [if_pos c39] at H;have c39b0:decide ((x5_1.length:Int)<13)=true:=decide_eq_true c39;have c39b1:decide (x5_1.length<13)=true:=decide_eq_true (by omega);clear c39;obtain ⟨⟨t213,t216,t217⟩,A40,H⟩:=bz H;dsimp only at H;by_cases c41:x5_1.length<5864062014805
        ·rw [if_pos c41] at H;have LMc41:=aM c41;clear c41;obtain ⟨y218,hy218⟩:∃y_:List (List Int),y_=(x5_1 ++ [t213]):=⟨_,rfl⟩;replace H:(spec_l5Any.l0 k1 a1 y218 s0_0 t216 t217)=some (r1,r2,r3):=(by first|(rw [hy218];with_reducible exact H)|(have H2_:=(Option.bind_some _ _).symm.trans H;rw [hy218];with_reducible exact H2_)|(have H2_:=(Option.bind_some _ _).symm.trans H;with_reducible exact H2_)|with_reducible exact H|(rw [hy218];exact H)|exact H);have Ny218:=aM hy218;clear hy218;have H':=aM H;clear H;obtain ⟨Ao42,co42,eo42⟩:=Kd.S_slice HO_5.out;subst eo42;go_wp2_with (first|((with_reducible refine gate_callee (f:=67) rfl ?_);refine gm (some 41) Try.func67 #[.pointer (some ⟨g,0,none⟩),.int .i64 a1] ?_;(with_reducible refine (spec_l5Row.calls k1 g s0_0 x1001_1 x1002_1 a1 t213 t216 t217 w0 _ ?side1 ?side2 A40.out).mono ?_);(case side1=>repeat (first|(with_reducible first|exact HI0.out|apply IsS89.alloc|apply IsS89.drewN|apply IsS89.drew|apply IsS89.set_1|apply IsS89.set_2)|exact HI0.out));(case side2=>repeat (first|(with_reducible first|exact HB.out|apply below_alloc|apply pw_below_drewN|apply below_drew1|refine below_set ?_ (IsS89.ge HI0.out))|exact HB.out));rintro e w43 ⟨v214,rfl,ho0,hi,hb,hk⟩;refine ⟨_,rfl,?_⟩;replace HO_5:=aM (Kd.S_mono (Kd.S_told (Kd.S_oldK (IsS89.apartS (show IsS89 w0 _ g s0_0 x1001_1 x1002_1 from by repeat (first|(with_reducible first|exact HI0.out|apply IsS89.alloc|apply IsS89.drewN|apply IsS89.drew|apply IsS89.set_1|apply IsS89.set_2)|exact HI0.out)) (by (with_reducible repeat (first|apply Kd.S_alloc|apply Kd.S_drewN|apply Kd.S_drew));exact HO_5.out) (by decide)) hk) (Kd.R_base ho0)) (fun _ h_=>h_.1));have HO215:=aM (Kd.R_lower ho0 (keep_size (w:=w) (g:=g) (row:=none) (by repeat (first|(with_reducible first|exact HK.out|apply KeepBut.set_|apply keep_drewN|apply keep_drew|apply keep_alloc)|exact HK.out))));replace HK:=aM (KeepBut.trans (by repeat (first|(with_reducible first|exact HK.out|apply KeepBut.set_|apply keep_drewN|apply keep_drew|apply keep_alloc)|exact HK.out)) hk (.inl rfl));replace HB:=aM (hb);replace HI0:=aM (hi);(try clear hb);(try clear hb2);(try clear hk);(try clear hi);(try clear ho0);obtain ⟨Ao45,co45,eo45⟩:=Kd.R_slice HO215.out;subst eo45)|((with_reducible refine gate_builtin (b:=.append) (xs:=#[.tmp 38,.tmp 42]) rfl ?_);at_builtin;refine Kd.S_append (Kd.slice 3 (Kd.int .i64)) w.heap.size rfl (.tmp 38) (.tmp 42) 22 23 (.slice none 0 0) 24 rfl Try.underlying22 info23 rfl (by decide) (by omega) (.slice Ao42 x5_1.length co42) x5_1 t213 [.slice Ao45 t213.length co45] (fun _=>True) (fun k_=>some k_=(.slice Ao45 t213.length co45:Value).ownBlock) rfl rfl ?aP (fun k_ hk_=>((Kd.R_mono (ok':=fun k_=>((fun _=>True)) k_∧some k_≠(.slice Ao42 x5_1.length co42:Value).ownBlock) (Kd.R_apart' (HO215.out) (Kd.S_typed HO_5.out) (by decide)) (fun k_ hk=>⟨trivial,hk.2⟩))).1 k_ hk_.symm) ?aF ?aO (Below.refl _ _) ?aS ?aL ?_;(case aP=>exact Kd.M_row (Kd.R_mono (Kd.R_tight rfl (Kd.R_mono (ok':=fun k_=>((fun _=>True)) k_∧some k_≠(.slice Ao42 x5_1.length co42:Value).ownBlock) (Kd.R_apart' (HO215.out) (Kd.S_typed HO_5.out) (by decide)) (fun k_ hk=>⟨trivial,hk.2⟩))) (fun _ h_=>h_)));(case aF=>exact (fun _ _=>trivial));(case aO=>exact (by (with_reducible repeat (first|apply Kd.S_alloc|apply Kd.S_drewN|apply Kd.S_drew));exact Kd.S_mono HO_5.out (fun k_ hk=>⟨trivial,fun e_=>hk.2 e_⟩)));(case aS=>exact (keep_size (w:=w) (g:=g) (row:=none) (by repeat (first|(with_reducible first|exact HK.out|apply KeepBut.set_|apply keep_drewN|apply keep_drew|apply keep_alloc)|exact HK.out))));(case aL=>have:=LMc41.out;omega);intro v219 w44 ho hb hg hat;rw [← Ny218.out] at ho;replace HB:=aM (below_weaken (by repeat (first|(with_reducible first|exact HB.out|apply below_alloc|apply pw_below_drewN|apply below_drew1|refine below_set ?_ (IsS89.ge HI0.out))|exact HB.out)) HL.out hb);replace HI0:=aM (IsS89.grown (by repeat (first|(with_reducible first|exact HI0.out|apply IsS89.alloc|apply IsS89.drewN|apply IsS89.drew|apply IsS89.set_1|apply IsS89.set_2)|exact HI0.out)) hg (IsS89.own_neS HI0.out HO_5.out (by decide)));replace HK:=aM (KeepBut.trans (by repeat (first|(with_reducible first|exact HK.out|apply KeepBut.set_|apply keep_drewN|apply keep_drew|apply keep_alloc)|exact HK.out)) (KeepBut.of_grown hg g) (Kd.S_base2 HO_5.out));have HO220:=aM (ho);clear HO_5 HO215 ho hb hg hat));go_roundg k1;(case measure=>have:=HK1.out;omega);(case rel=>exact ⟨(y218),(t216),(t217),H',⟨by have:=HK1.out;omega⟩,⟨by (with_reducible repeat (first|apply Kd.S_alloc|apply Kd.S_drewN|apply Kd.S_drew));exact HO220.out⟩,⟨by repeat (first|(with_reducible first|exact HI0.out|apply IsS89.alloc|apply IsS89.drewN|apply IsS89.drew|apply IsS89.set_1|apply IsS89.set_2)|exact HI0.out)⟩,⟨by repeat (first|(with_reducible first|exact HK.out|apply KeepBut.set_|apply keep_drewN|apply keep_drew|apply keep_alloc)|exact HK.out)⟩,⟨by repeat (first|(with_reducible first|exact HB.out|apply below_alloc|apply pw_below_drewN|apply below_drew1|refine below_set ?_ (IsS89.ge HI0.out))|exact HB.out)⟩⟩)
        ·rw [if_neg c41] at H;exact absurd H (by simp)
       ·rw [if_neg c39] at H;have c39b0:decide ((x5_1.length:Int)<13)=false:=decide_eq_false c39;have c39b1:decide (x5_1.length<13)=false:=decide_eq_false (by omega);clear c39;simp only [Option.some.injEq,Prod.mk.injEq] at H;obtain ⟨rfl,rfl,rfl⟩:=H;obtain ⟨Ao46,co46,eo46⟩:=Kd.S_slice HO_5.out;subst eo46;go_wp2;go_ret;exact ⟨_,by first|rfl|(simp [errW_none,errW_some]<;>rfl)|(simp [*,errW_none,errW_some]<;>rfl),by (with_reducible repeat (first|apply Kd.S_alloc|apply Kd.S_drewN|apply Kd.S_drew));exact HO_5.out,by repeat (first|(with_reducible first|exact HI0.out|apply IsS89.alloc|apply IsS89.drewN|apply IsS89.drew|apply IsS89.set_1|apply IsS89.set_2)|exact HI0.out),by repeat (first|(with_reducible first|exact HB.out|apply below_alloc|apply pw_below_drewN|apply below_drew1|refine below_set ?_ (IsS89.ge HI0.out))|exact HB.out),by repeat (first|(with_reducible first|exact HK.out|apply KeepBut.set_|apply keep_drewN|apply keep_drew|apply keep_alloc)|exact HK.out)⟩
    ·rw [if_neg c35] at H;have c35b0:(t195 == 2)=false:=beq_eq_false_iff_ne.mpr c35;have c35b1:(t195 != 2)=true:=bne_iff_ne.mpr c35;simp only [Option.some.injEq,Prod.mk.injEq] at H;obtain ⟨rfl,rfl,rfl⟩:=H;go_enter Try.func100,Try.ntmps100;go_wp2_with (first|((with_reducible refine gate_callee (f:=112) rfl ?_);refine gm (some 8) Try.func112 #[.pointer (some ⟨g,0,none⟩),.int .i64 a1] ?_;(with_reducible refine (spec_l5Draw.calls k g s0_0 s0_1 s0_2 a1 t190 t193 t194 w0 _ ?side1 ?side2 A3.out).mono ?_);(case side1=>repeat (first|(with_reducible first|exact HI0.out|apply IsS89.alloc|apply IsS89.drewN|apply IsS89.drew|apply IsS89.set_1|apply IsS89.set_2)|exact HI0.out));(case side2=>repeat (first|(with_reducible first|exact HB.out|apply below_alloc|apply pw_below_drewN|apply below_drew1|refine below_set ?_ (IsS89.ge HI0.out))|exact HB.out));rintro e w47 ⟨v191,rfl,ho0,hi,hb,hk⟩;refine ⟨_,rfl,?_⟩;have HO192:=aM (Kd.S_lower ho0 (keep_size (w:=w) (g:=g) (row:=none) (by repeat (first|(with_reducible first|exact HK.out|apply KeepBut.set_|apply keep_drewN|apply keep_drew|apply keep_alloc)|exact HK.out))));replace HK:=aM (KeepBut.trans (by repeat (first|(with_reducible first|exact HK.out|apply KeepBut.set_|apply keep_drewN|apply keep_drew|apply keep_alloc)|exact HK.out)) hk (.inl rfl));replace HB:=aM (hb);replace HI0:=aM (hi);(try clear hb);(try clear hb2);(try clear hk);(try clear hi);(try clear ho0);obtain ⟨Ao48,co48,eo48⟩:=Kd.S_slice HO192.out;subst eo48)|((with_reducible refine gate_callee (f:=63) rfl ?_);refine gm (some 14) Try.func63 #[.pointer (some ⟨g,0,none⟩),.int .i64 9] ?_;(with_reducible refine (spec_l1Below.calls g s0_0 t193 t194 9 t195 t196 t197 w0 _ ?side1 ?side2 A7.out).mono ?_);(case side1=>repeat (first|(with_reducible first|exact HI0.out|apply IsS89.alloc|apply IsS89.drewN|apply IsS89.drew|apply IsS89.set_1|apply IsS89.set_2)|exact HI0.out));(case side2=>repeat (first|(with_reducible first|exact HB.out|apply below_alloc|apply pw_below_drewN|apply below_drew1|refine below_set ?_ (IsS89.ge HI0.out))|exact HB.out));rintro e w49 ⟨rfl,hi,hb,hk⟩;refine ⟨_,rfl,?_⟩;replace HO192:=aM (Kd.S_mono (Kd.S_keep (IsS89.apartS (show IsS89 w0 _ g s0_0 t193 t194 from by repeat (first|(with_reducible first|exact HI0.out|apply IsS89.alloc|apply IsS89.drewN|apply IsS89.drew|apply IsS89.set_1|apply IsS89.set_2)|exact HI0.out)) (by (with_reducible repeat (first|apply Kd.S_alloc|apply Kd.S_drewN|apply Kd.S_drew));exact HO192.out) (by decide)) hk (fun _ h=>h.2)) (fun _ h=>h.1));replace HK:=aM (KeepBut.trans (by repeat (first|(with_reducible first|exact HK.out|apply KeepBut.set_|apply keep_drewN|apply keep_drew|apply keep_alloc)|exact HK.out)) hk (.inl rfl));replace HB:=aM (hb);replace HI0:=aM (hi);(try clear hb);(try clear hb2);(try clear hk);(try clear hi)));go_ret;exact ⟨_,by first|rfl|(simp [errW_none,errW_some]<;>rfl)|(simp [*,errW_none,errW_some]<;>rfl),by (with_reducible repeat (first|apply Kd.S_alloc|apply Kd.S_drewN|apply Kd.S_drew));exact HO192.out,by repeat (first|(with_reducible first|exact HI0.out|apply IsS89.alloc|apply IsS89.drewN|apply IsS89.drew|apply IsS89.set_1|apply IsS89.set_2)|exact HI0.out),by repeat (first|(with_reducible first|exact HB.out|apply below_alloc|apply pw_below_drewN|apply below_drew1|refine below_set ?_ (IsS89.ge HI0.out))|exact HB.out),by repeat (first|(with_reducible first|exact HK.out|apply KeepBut.set_|apply keep_drewN|apply keep_drew|apply keep_alloc)|exact HK.out)⟩
def spec_DrawIsMatrix.f (k : Nat) (l0 : List Int) : Option ((List (List Int)) × Int) := (spec_l1New.f k l0).bind fun bt221 => ((spec_l1Below.f bt221.1 bt221.2.1 bt221.2.2 6).bind fun bt225 => ((spec_l5Any.f k bt221.1 bt225.2.1 bt225.2.2 (wrap64 (1 + bt225.1))).bind fun bt228 => ((spec_l1Once.f bt221.1 bt228.2.1 bt228.2.2 8).bind fun bt233 => (if bt233.1 = true then ((spec_l1Int.f bt221.1 bt233.2.1 bt233.2.2 (([0, 7, (-1)] : List Int))).bind fun bt239 => (some (bt228.1, bt239.1))) else (some (bt228.1, wrap64 (1 + bt225.1)))))))
set_option maxHeartbeats 8000000 in
set_option maxRecDepth 100000 in
theorem spec_DrawIsMatrix.calls (k : Nat) (A0 : Option Addr) (c0 : Nat) (l0 : List Int) (r1 : List (List Int)) (r2 : Int) (w : World) (hr0 : Kd.C (Kd.int .u8) w A0 l0.length l0) (hc0 : l0.length ≤ c0) (h : spec_DrawIsMatrix.f k l0 = some (r1, r2)) :
 Calls Try.prog 80 #[.slice A0 l0.length c0] w fun e w' => ∃ v0_ : Value, e = .returned (.tuple #[v0_, .int .i64 r2]) ∧ Kd.S (Kd.slice 3 (Kd.int .i64)) 23 w' w.heap.size (fun _ => True) v0_ r1 ∧ Below w.heap.size w w' := by
 have HR0:=aM hr0;have HC0:=aM hc0;clear hr0 hc0;have HB:=aM (Below.refl w.heap.size w);have H:((spec_l1New.f k l0).bind fun bt221=>((spec_l1Below.f bt221.1 bt221.2.1 bt221.2.2 6).bind fun bt225=>((spec_l5Any.f k bt221.1 bt225.2.1 bt225.2.2 (wrap64 (1+bt225.1))).bind fun bt228=>((spec_l1Once.f bt221.1 bt228.2.1 bt228.2.2 8).bind fun bt233=>(if bt233.1=true then ((spec_l1Int.f bt221.1 bt233.2.1 bt233.2.2 (([0,7,(-1)]:List Int))).bind fun bt239=>(some (bt228.1,bt239.1))) else (some (bt228.1,wrap64 (1+bt225.1))))))))=some (r1,r2):=h;clear h;obtain ⟨⟨t221,t222,t223⟩,A2,H⟩:=bz H;dsimp only at H;obtain ⟨⟨t225,t226,t227⟩,A3,H⟩:=bz H;dsimp only at H;obtain ⟨⟨t228,t231,t232⟩,A4,H⟩:=bz H;dsimp only at H;obtain ⟨⟨t233,t234,t235⟩,A5,H⟩:=bz H;dsimp only at H;by_cases c6:t233=true
 ·subst c6;replace H:=ifT H;obtain ⟨y236,hy236⟩:∃y_:List Int,y_=(([0,7,(-1)]:List Int)):=⟨_,rfl⟩;replace H:((spec_l1Int.f t221 t234 t235 y236).bind fun bt239=>(some (t228,bt239.1)))=some (r1,r2):=(by first|(rw [hy236];with_reducible exact H)|(have H2_:=(Option.bind_some _ _).symm.trans H;rw [hy236];with_reducible exact H2_)|(have H2_:=(Option.bind_some _ _).symm.trans H;with_reducible exact H2_)|with_reducible exact H|(rw [hy236];exact H)|exact H);have Ny236:=aM hy236;clear hy236;obtain ⟨⟨t239,t240,t241⟩,A7,H⟩:=bz H;dsimp only at H;simp only [Option.some.injEq,Prod.mk.injEq] at H;obtain ⟨rfl,rfl⟩:=H;go_enter Try.func80,Try.ntmps80;go_wp2_with (first|((with_reducible refine gate_callee (f:=62) rfl ?_);refine gm (some 8) Try.func62 #[.slice A0 l0.length c0] ?_;(with_reducible refine (spec_l1New.calls k _ _ l0 t221 t222 t223 w _ ?side1 ?side2 ?side3 A2.out).mono ?_);(case side1=>repeat (first|(with_reducible first|exact HB.out|apply below_alloc|apply pw_below_drewN|apply below_drew1)|exact HB.out));(case side2=>exact HR0.out);(case side3=>exact HC0.out);rintro e w8 ⟨g224,rfl,hi,hb,hb2⟩;refine ⟨_,rfl,?_⟩;replace HB:=aM (hb);have HI224:=aM (hi);(try clear hb);(try clear hb2);(try clear hk);(try clear hi))|((with_reducible refine gate_callee (f:=63) rfl ?_);refine gm (some 10) Try.func63 #[.pointer (some ⟨g224,0,none⟩),.int .i64 6] ?_;(with_reducible refine (spec_l1Below.calls g224 t221 t222 t223 6 t225 t226 t227 w _ ?side1 ?side2 A3.out).mono ?_);(case side1=>repeat (first|(with_reducible first|exact HI224.out|apply IsS89.alloc|apply IsS89.drewN|apply IsS89.drew|apply IsS89.set_1|apply IsS89.set_2)|exact HI224.out));(case side2=>repeat (first|(with_reducible first|exact HB.out|apply below_alloc|apply pw_below_drewN|apply below_drew1|refine below_set ?_ (IsS89.ge HI224.out))|exact HB.out));rintro e w9 ⟨rfl,hi,hb,hk⟩;refine ⟨_,rfl,?_⟩;replace HB:=aM (hb);replace HI224:=aM (hi);(try clear hb);(try clear hb2);(try clear hk);(try clear hi))|((with_reducible refine gate_callee (f:=100) rfl ?_);refine gm (some 14) Try.func100 #[.pointer (some ⟨g224,0,none⟩),.int .i64 (wrap64 (1+t225))] ?_;(with_reducible refine (spec_l5Any.calls k g224 t221 t226 t227 (wrap64 (1+t225)) t228 t231 t232 w _ ?side1 ?side2 A4.out).mono ?_);(case side1=>repeat (first|(with_reducible first|exact HI224.out|apply IsS89.alloc|apply IsS89.drewN|apply IsS89.drew|apply IsS89.set_1|apply IsS89.set_2)|exact HI224.out));(case side2=>repeat (first|(with_reducible first|exact HB.out|apply below_alloc|apply pw_below_drewN|apply below_drew1|refine below_set ?_ (IsS89.ge HI224.out))|exact HB.out));rintro e w10 ⟨v229,rfl,ho0,hi,hb,hk⟩;refine ⟨_,rfl,?_⟩;have HO230:=aM (Kd.S_lower ho0 (below_size (by repeat (first|(with_reducible first|exact HB.out|apply below_alloc|apply pw_below_drewN|apply below_drew1|refine below_set ?_ (IsS89.ge HI224.out))|exact HB.out))));replace HB:=aM (hb);replace HI224:=aM (hi);(try clear hb);(try clear hb2);(try clear hk);(try clear hi);(try clear ho0))|((with_reducible refine gate_callee (f:=66) rfl ?_);refine gm (some 16) Try.func66 #[.pointer (some ⟨g224,0,none⟩),.int .i64 8] ?_;(with_reducible refine (spec_l1Once.calls g224 t221 t231 t232 8 true t234 t235 w _ ?side1 ?side2 A5.out).mono ?_);(case side1=>repeat (first|(with_reducible first|exact HI224.out|apply IsS89.alloc|apply IsS89.drewN|apply IsS89.drew|apply IsS89.set_1|apply IsS89.set_2)|exact HI224.out));(case side2=>repeat (first|(with_reducible first|exact HB.out|apply below_alloc|apply pw_below_drewN|apply below_drew1|refine below_set ?_ (IsS89.ge HI224.out))|exact HB.out));rintro e w11 ⟨rfl,hi,hb,hk⟩;refine ⟨_,rfl,?_⟩;replace HO230:=aM (Kd.S_mono (Kd.S_keep (IsS89.apartS (show IsS89 w _ g224 t221 t231 t232 from by repeat (first|(with_reducible first|exact HI224.out|apply IsS89.alloc|apply IsS89.drewN|apply IsS89.drew|apply IsS89.set_1|apply IsS89.set_2)|exact HI224.out)) (by (with_reducible repeat (first|apply Kd.S_alloc|apply Kd.S_drewN|apply Kd.S_drew));exact HO230.out) (by decide)) hk (fun _ h=>h.2)) (fun _ h=>h.1));replace HB:=aM (hb);replace HI224:=aM (hi);(try clear hb);(try clear hb2);(try clear hk);(try clear hi))|((with_reducible refine gate_dst (N:=18) rfl ?_);refine Kd.R_lit (Kd.int .i64) _ 3 ?hg (N:=18) ?hd (xs:=([0,7,(-1)]:List Int)) (inner:=[.int .i64 0,.int .i64 7,.int .i64 (-1)]) (ok:=fun _=>True) (okp:=fun _=>True) ?hr ?hp (fun _ hk=>hk) trivial (Below.refl _ _) (Nat.le_refl _) (by simp) ?_;(case hd=>rfl);(case hg=>rfl);(case hr=>first|(go_simp;done)|(go_simp;rfl));(case hp=>exact (Reps.one (show Kd.M (Kd.int .i64) _ _ _ 0 [.int .i64 0] from rfl) (Reps.one (show Kd.M (Kd.int .i64) _ _ _ 7 [.int .i64 7] from rfl) (Reps.one (show Kd.M (Kd.int .i64) _ _ _ (-1) [.int .i64 (-1)] from rfl) (Reps.none _ _)))));intro v237 w12 ho13 hb hg_ hnew_;clear hg_ hnew_;(first|rw [← Ny236.out] at ho13|(simp only [Int.reduceToNat] at ho13;rw [← Ny236.out] at ho13));replace HO230:=aM (Kd.S_elder' (by (with_reducible repeat (first|apply Kd.S_alloc|apply Kd.S_drewN|apply Kd.S_drew));exact HO230.out) (Kd.R_base ho13) hb);have HO238:=aM (Kd.R_lower ho13 (below_size (by repeat (first|(with_reducible first|exact HB.out|apply below_alloc|apply pw_below_drewN|apply below_drew1|refine below_set ?_ (IsS89.ge HI224.out))|exact HB.out))));replace HB:=aM (below_step (by repeat (first|(with_reducible first|exact HB.out|apply below_alloc|apply pw_below_drewN|apply below_drew1|refine below_set ?_ (IsS89.ge HI224.out))|exact HB.out)) hb);replace HI224:=aM (IsS89.below (by repeat (first|(with_reducible first|exact HI224.out|apply IsS89.alloc|apply IsS89.drewN|apply IsS89.drew|apply IsS89.set_1|apply IsS89.set_2)|exact HI224.out)) hb);clear hb ho13;obtain ⟨Ao14,co14,eo14⟩:=Kd.R_slice HO238.out;subst eo14)|((with_reducible refine gate_callee (f:=101) rfl ?_);refine gm (some 19) Try.func101 #[.pointer (some ⟨g224,0,none⟩),.slice Ao14 y236.length co14] ?_;(with_reducible refine (spec_l1Int.calls g224 t221 t234 t235 _ _ y236 t239 t240 t241 w _ ?side1 ?side2 ?side3 ?side4 ?side5 A7.out).mono ?_);(case side1=>repeat (first|(with_reducible first|exact HI224.out|apply IsS89.alloc|apply IsS89.drewN|apply IsS89.drew|apply IsS89.set_1|apply IsS89.set_2)|exact HI224.out));(case side2=>repeat (first|(with_reducible first|exact HB.out|apply below_alloc|apply pw_below_drewN|apply below_drew1|refine below_set ?_ (IsS89.ge HI224.out))|exact HB.out));(case side3=>exact zc (Kd.R_reads' HO238.out).2.2);(case side4=>exact (Kd.R_reads' HO238.out).2.1);(case side5=>exact far_slice (IsS89.own_ne HI224.out HO238.out (by decide)));rintro e w15 ⟨rfl,hi,hb,hk⟩;refine ⟨_,rfl,?_⟩;replace HO230:=aM (Kd.S_mono (Kd.S_keep (IsS89.apartS (show IsS89 w _ g224 t221 t234 t235 from by repeat (first|(with_reducible first|exact HI224.out|apply IsS89.alloc|apply IsS89.drewN|apply IsS89.drew|apply IsS89.set_1|apply IsS89.set_2)|exact HI224.out)) (by (with_reducible repeat (first|apply Kd.S_alloc|apply Kd.S_drewN|apply Kd.S_drew));exact HO230.out) (by decide)) hk (fun _ h=>h.2)) (fun _ h=>h.1));replace HO238:=aM (Kd.R_mono (Kd.R_keep (IsS89.apart (show IsS89 w _ g224 t221 t234 t235 from by repeat (first|(with_reducible first|exact HI224.out|apply IsS89.alloc|apply IsS89.drewN|apply IsS89.drew|apply IsS89.set_1|apply IsS89.set_2)|exact HI224.out)) (zr HO238.out) (by decide)) hk (fun _ h=>h.2)) (fun _ h=>h.1));replace HB:=aM (hb);replace HI224:=aM (hi);(try clear hb);(try clear hb2);(try clear hk);(try clear hi)));go_ret2;exact ⟨_,by first|rfl|(simp [errW_none,errW_some]<;>rfl)|(simp [*,errW_none,errW_some]<;>rfl),by (with_reducible repeat (first|apply Kd.S_alloc|apply Kd.S_drewN|apply Kd.S_drew));exact Kd.S_mono HO230.out (fun _ hk=>trivial),by repeat (first|(with_reducible first|exact HB.out|apply below_alloc|apply pw_below_drewN|apply below_drew1|refine below_set ?_ (IsS89.ge HI224.out))|exact HB.out)⟩
 ·replace c6:=Bool.eq_false_iff.mpr c6;subst c6;replace H:=ifF H;simp only [Option.some.injEq,Prod.mk.injEq] at H;obtain ⟨rfl,rfl⟩:=H;go_enter Try.func80,Try.ntmps80;go_wp2_with (first|((with_reducible refine gate_callee (f:=62) rfl ?_);refine gm (some 8) Try.func62 #[.slice A0 l0.length c0] ?_;(with_reducible refine (spec_l1New.calls k _ _ l0 t221 t222 t223 w _ ?side1 ?side2 ?side3 A2.out).mono ?_);(case side1=>repeat (first|(with_reducible first|exact HB.out|apply below_alloc|apply pw_below_drewN|apply below_drew1)|exact HB.out));(case side2=>exact HR0.out);(case side3=>exact HC0.out);rintro e w16 ⟨g224,rfl,hi,hb,hb2⟩;refine ⟨_,rfl,?_⟩;replace HB:=aM (hb);have HI224:=aM (hi);(try clear hb);(try clear hb2);(try clear hk);(try clear hi))|((with_reducible refine gate_callee (f:=63) rfl ?_);refine gm (some 10) Try.func63 #[.pointer (some ⟨g224,0,none⟩),.int .i64 6] ?_;(with_reducible refine (spec_l1Below.calls g224 t221 t222 t223 6 t225 t226 t227 w _ ?side1 ?side2 A3.out).mono ?_);(case side1=>repeat (first|(with_reducible first|exact HI224.out|apply IsS89.alloc|apply IsS89.drewN|apply IsS89.drew|apply IsS89.set_1|apply IsS89.set_2)|exact HI224.out));(case side2=>repeat (first|(with_reducible first|exact HB.out|apply below_alloc|apply pw_below_drewN|apply below_drew1|refine below_set ?_ (IsS89.ge HI224.out))|exact HB.out));rintro e w17 ⟨rfl,hi,hb,hk⟩;refine ⟨_,rfl,?_⟩;replace HB:=aM (hb);replace HI224:=aM (hi);(try clear hb);(try clear hb2);(try clear hk);(try clear hi))|((with_reducible refine gate_callee (f:=100) rfl ?_);refine gm (some 14) Try.func100 #[.pointer (some ⟨g224,0,none⟩),.int .i64 (wrap64 (1+t225))] ?_;(with_reducible refine (spec_l5Any.calls k g224 t221 t226 t227 (wrap64 (1+t225)) t228 t231 t232 w _ ?side1 ?side2 A4.out).mono ?_);(case side1=>repeat (first|(with_reducible first|exact HI224.out|apply IsS89.alloc|apply IsS89.drewN|apply IsS89.drew|apply IsS89.set_1|apply IsS89.set_2)|exact HI224.out));(case side2=>repeat (first|(with_reducible first|exact HB.out|apply below_alloc|apply pw_below_drewN|apply below_drew1|refine below_set ?_ (IsS89.ge HI224.out))|exact HB.out));rintro e w18 ⟨v229,rfl,ho0,hi,hb,hk⟩;refine ⟨_,rfl,?_⟩;have HO230:=aM (Kd.S_lower ho0 (below_size (by repeat (first|(with_reducible first|exact HB.out|apply below_alloc|apply pw_below_drewN|apply below_drew1|refine below_set ?_ (IsS89.ge HI224.out))|exact HB.out))));replace HB:=aM (hb);replace HI224:=aM (hi);(try clear hb);(try clear hb2);(try clear hk);(try clear hi);(try clear ho0))|((with_reducible refine gate_callee (f:=66) rfl ?_);refine gm (some 16) Try.func66 #[.pointer (some ⟨g224,0,none⟩),.int .i64 8] ?_;(with_reducible refine (spec_l1Once.calls g224 t221 t231 t232 8 false t234 t235 w _ ?side1 ?side2 A5.out).mono ?_);(case side1=>repeat (first|(with_reducible first|exact HI224.out|apply IsS89.alloc|apply IsS89.drewN|apply IsS89.drew|apply IsS89.set_1|apply IsS89.set_2)|exact HI224.out));(case side2=>repeat (first|(with_reducible first|exact HB.out|apply below_alloc|apply pw_below_drewN|apply below_drew1|refine below_set ?_ (IsS89.ge HI224.out))|exact HB.out));rintro e w19 ⟨rfl,hi,hb,hk⟩;refine ⟨_,rfl,?_⟩;replace HO230:=aM (Kd.S_mono (Kd.S_keep (IsS89.apartS (show IsS89 w _ g224 t221 t231 t232 from by repeat (first|(with_reducible first|exact HI224.out|apply IsS89.alloc|apply IsS89.drewN|apply IsS89.drew|apply IsS89.set_1|apply IsS89.set_2)|exact HI224.out)) (by (with_reducible repeat (first|apply Kd.S_alloc|apply Kd.S_drewN|apply Kd.S_drew));exact HO230.out) (by decide)) hk (fun _ h=>h.2)) (fun _ h=>h.1));replace HB:=aM (hb);replace HI224:=aM (hi);(try clear hb);(try clear hb2);(try clear hk);(try clear hi)));go_ret2;exact ⟨_,by first|rfl|(simp [errW_none,errW_some]<;>rfl)|(simp [*,errW_none,errW_some]<;>rfl),by (with_reducible repeat (first|apply Kd.S_alloc|apply Kd.S_drewN|apply Kd.S_drew));exact HO230.out,by repeat (first|(with_reducible first|exact HB.out|apply below_alloc|apply pw_below_drewN|apply below_drew1|refine below_set ?_ (IsS89.ge HI224.out))|exact HB.out)⟩
def spec_DrawReduceRows.f (k : Nat) (l0 : List Int) : Option ((List (List Int)) × Int) := (spec_DrawIsMatrix.f k l0).bind fun bt242 => (some (bt242.1, bt242.2))
set_option maxHeartbeats 8000000 in
set_option maxRecDepth 100000 in
theorem spec_DrawReduceRows.calls (k : Nat) (A0 : Option Addr) (c0 : Nat) (l0 : List Int) (r1 : List (List Int)) (r2 : Int) (w : World) (hr0 : Kd.C (Kd.int .u8) w A0 l0.length l0) (hc0 : l0.length ≤ c0) (h : spec_DrawReduceRows.f k l0 = some (r1, r2)) :
 Calls Try.prog 38 #[.slice A0 l0.length c0] w fun e w' => ∃ v0_ : Value, e = .returned (.tuple #[v0_, .int .i64 r2]) ∧ Kd.S (Kd.slice 3 (Kd.int .i64)) 23 w' w.heap.size (fun _ => True) v0_ r1 ∧ Below w.heap.size w w' := by
 have HR0:=aM hr0;have HC0:=aM hc0;clear hr0 hc0;have HB:=aM (Below.refl w.heap.size w);have H:((spec_DrawIsMatrix.f k l0).bind fun bt242=>(some (bt242.1,bt242.2)))=some (r1,r2):=h;clear h;obtain ⟨⟨t242,t243⟩,A2,H⟩:=bz H;dsimp only at H;simp only [Option.some.injEq,Prod.mk.injEq] at H;obtain ⟨rfl,rfl⟩:=H;go_enter Try.func38,Try.ntmps38;go_wp2_with (first|((with_reducible refine gate_callee (f:=80) rfl ?_);refine gm (some 5) Try.func80 #[.slice A0 l0.length c0] ?_;(with_reducible refine (spec_DrawIsMatrix.calls k _ _ l0 t242 t243 _ ?side1 ?side2 A2.out).mono ?_);(case side1=>exact zc HR0.out);(case side2=>exact HC0.out);rintro e w3 ⟨v244,rfl,ho0,hb⟩;refine ⟨_,rfl,?_⟩;have HO245:=aM (Kd.S_lower ho0 (below_size (zb HB.out)));replace HB:=aM (below_step (zb HB.out) hb);(try clear hb);(try clear hb2);(try clear hk);(try clear hi);(try clear ho0)));go_ret2;exact ⟨_,by first|rfl|(simp [errW_none,errW_some]<;>rfl)|(simp [*,errW_none,errW_some]<;>rfl),by (with_reducible repeat (first|apply Kd.S_alloc|apply Kd.S_drewN|apply Kd.S_drew));exact HO245.out,zb HB.out⟩
def impl_ReduceRows.f (k : Nat) (l0 : List (List Int)) (a1 : Int) : Option ((List (List Int))) := (impl_IsMatrix.f k l0 a1).bind fun t246 => (if t246 = true then ((impl_reduceAny.f k l0 a1).bind fun t247 => (some t247)) else (some ([] : List (List Int))))
set_option maxHeartbeats 8000000 in
set_option maxRecDepth 100000 in
theorem impl_ReduceRows.calls (k : Nat) (A0 : Option Addr) (c0 : Nat) (l0 : List (List Int)) (a1 : Int) (r : List (List Int)) (w : World) (hr0 : Kd.C (Kd.slice 3 (Kd.int .i64)) w A0 l0.length l0) (hc0 : l0.length ≤ c0) (h : impl_ReduceRows.f k l0 a1 = some r) :
 Calls Try.prog 39 #[.slice A0 l0.length c0, .int .i64 a1] w fun e w' => ∃ v0_ : Value, e = .returned (v0_) ∧ Kd.S (Kd.slice 3 (Kd.int .i64)) 23 w' w.heap.size (fun _ => True) v0_ r ∧ Below w.heap.size w w' := by
 have HR0:=aM hr0;have HC0:=aM hc0;clear hr0 hc0;have HB:=aM (Below.refl w.heap.size w);have H:((impl_IsMatrix.f k l0 a1).bind fun t246=>(if t246=true then ((impl_reduceAny.f k l0 a1).bind fun t247=>(some t247)) else (some ([]:List (List Int)))))=some r:=h;clear h;obtain ⟨t246,A3,H⟩:=bz H;by_cases c4:t246=true
 ·subst c4;replace H:=ifT H;obtain ⟨t247,A5,H⟩:=bz H;obtain rfl:=Option.some.inj H;go_enter Try.func39,Try.ntmps39;go_wp2_with (first|((with_reducible refine gate_callee (f:=40) rfl ?_);refine gm (some 7) Try.func40 #[.slice A0 l0.length c0,.int .i64 a1] ?_;(with_reducible refine (impl_IsMatrix.calls k _ _ l0 a1 true _ ?side1 ?side2 A3.out).mono ?_);(case side1=>exact zc HR0.out);(case side2=>exact HC0.out);rintro e w' ⟨rfl,⟨nd,rfl⟩⟩;refine ⟨_,rfl,?_⟩)|((with_reducible refine gate_callee (f:=77) rfl ?_);refine gm (some 11) Try.func77 #[.slice A0 l0.length c0,.int .i64 a1] ?_;(with_reducible refine (impl_reduceAny.calls k _ _ l0 a1 t247 _ ?side1 ?side2 A5.out).mono ?_);(case side1=>exact zc HR0.out);(case side2=>exact HC0.out);rintro e w6 ⟨v248,rfl,ho0,hb⟩;refine ⟨_,rfl,?_⟩;have HO249:=aM (Kd.S_lower ho0 (below_size (zb HB.out)));replace HB:=aM (below_step (zb HB.out) hb);(try clear hb);(try clear hb2);(try clear hk);(try clear hi);(try clear ho0)));go_ret;exact ⟨_,by first|rfl|(simp [errW_none,errW_some]<;>rfl)|(simp [*,errW_none,errW_some]<;>rfl),by (with_reducible repeat (first|apply Kd.S_alloc|apply Kd.S_drewN|apply Kd.S_drew));exact HO249.out,zb HB.out⟩
 ·replace c4:=Bool.eq_false_iff.mpr c4;subst c4;replace H:=ifF H;obtain rfl:=Option.some.inj H;go_enter Try.func39,Try.ntmps39;go_wp2_with (first|((with_reducible refine gate_callee (f:=40) rfl ?_);refine gm (some 7) Try.func40 #[.slice A0 l0.length c0,.int .i64 a1] ?_;(with_reducible refine (impl_IsMatrix.calls k _ _ l0 a1 false _ ?side1 ?side2 A3.out).mono ?_);(case side1=>exact zc HR0.out);(case side2=>exact HC0.out);rintro e w' ⟨rfl,⟨nd,rfl⟩⟩;refine ⟨_,rfl,?_⟩));go_ret;exact ⟨_,by first|rfl|(simp [errW_none,errW_some]<;>rfl)|(simp [*,errW_none,errW_some]<;>rfl),by first|exact Kd.S_nil _ _ _ _ _|exact Kd.N_nil _ _ _ _ _|exact Kd.V_nil _ _ _ _ _|exact Kd.Q_nil _ _ _ _ _|exact Kd.R_nil _ _ _ _ _,zb HB.out⟩
def spec_l1In.f (a0 : Int) (a1 : Int) (a2 : Int) : Option (Bool) := if a0 ≥ a1 then (some (decide (a0 ≤ a2))) else (some false)
set_option maxHeartbeats 8000000 in
set_option maxRecDepth 100000 in
theorem spec_l1In.calls (a0 : Int) (a1 : Int) (a2 : Int) (r : Bool) (w : World) (h : spec_l1In.f a0 a1 a2 = some r) :
 Calls Try.prog 83 #[.int .i64 a0, .int .i64 a1, .int .i64 a2] w fun e w' => e = .returned (.bool r) ∧ Drawn0 w w' := by
 have H:(if a0≥a1 then (some (decide (a0≤a2))) else (some false))=some r:=h;clear h;by_cases c4:a0≥a1
 ·rw [if_pos c4] at H;have c4b0:decide (a1≤a0)=true:=decide_eq_true c4;clear c4;obtain rfl:=Option.some.inj H;go_enter Try.func83,Try.ntmps83;go_wp2;go_ret;exact ⟨zt,zz⟩
 ·rw [if_neg c4] at H;have c4b0:decide (a1≤a0)=false:=decide_eq_false c4;clear c4;obtain rfl:=Option.some.inj H;go_enter Try.func83,Try.ntmps83;go_wp2;go_ret;exact ⟨zt,zz⟩
end Go.Proofs.Ytojkepidkmkmpaa.PFnRows
end
section
namespace Go.Proofs.Ytojkepidkmkmpaa.PFnRows
open Go.Proofs.YtojkepidkmkmpaaW.PrintWords.Aside0 renaming mk → aM
open List renaming setIfInBounds_toArray → qa, set_cons_zero → qz, set_cons_succ → qs
open Bool renaming true → tt, false → ff
open Option renaming bind_eq_some_iff → bE

open Go.RowKit Go.Proofs.YtojkepidkmkmpaaW.PrintWords Go.Proofs.YtojkepidkmkmpaaW.PrintLast Go.Proofs.YtojkepidkmkmpaaW.PrintMore
attribute [local go_sem] max2_int min2_int max_two min_two max_three min_three max_four min_four
set_option linter.unusedVariables false
set_option linter.unusedSimpArgs false
mutual
def spec_IsMatrix.j0 : Nat → List (List Int) → Int → Bool → Option (Bool)
 | 0, _, _, _ => none
 | k + 1, x0, x1, x14 => if x14 = true then (some false) else (spec_IsMatrix.l0 k x0 x1 0)
def spec_IsMatrix.l0 : Nat → List (List Int) → Int → Int → Option (Bool)
 | 0, _, _, _ => none
 | k + 1, x0, x1, x5 => if x5 < (x0.length : Int) then (if 0 ≤ x5 then (if ((rd_L1 x0 x5).length : Int) = x1 then (spec_IsMatrix.l1 k x0 x1 x5 0) else (some false)) else (none)) else (some true)
def spec_IsMatrix.l1 : Nat → List (List Int) → Int → Int → Int → Option (Bool)
 | 0, _, _, _, _ => none
 | k + 1, x0, x1, x5, x6 => if x6 < x1 then (if 0 ≤ x5 then (if x5 < (x0.length : Int) then (if 0 ≤ x6 then (if x6 < ((rd_L1 x0 x5).length : Int) then ((spec_l1In.f (rd (rd_L1 x0 x5) x6) (-2) 2).bind fun t254 => (if t254 = true then (spec_IsMatrix.l1 k x0 x1 x5 (wrap64 (x6 + 1))) else (some false))) else (none)) else (none)) else (none)) else (none)) else (spec_IsMatrix.l0 k x0 x1 (wrap64 (x5 + 1)))
end
def spec_IsMatrix.f (k : Nat) (l0 : List (List Int)) (a1 : Int) : Option (Bool) := (spec_l1In.f a1 1 6).bind fun t250 => (if t250 = true then (spec_IsMatrix.j0 k l0 a1 (decide ((l0.length : Int) > 12))) else (spec_IsMatrix.j0 k l0 a1 true))
set_option maxHeartbeats 8000000 in
set_option maxRecDepth 100000 in
theorem spec_IsMatrix.calls (k : Nat) (A0 : Option Addr) (c0 : Nat) (l0 : List (List Int)) (a1 : Int) (r : Bool) (w : World) (hr0 : Kd.C (Kd.slice 3 (Kd.int .i64)) w A0 l0.length l0) (hc0 : l0.length ≤ c0) (h : spec_IsMatrix.f k l0 a1 = some r) :
 Calls Try.prog 41 #[.slice A0 l0.length c0, .int .i64 a1] w fun e w' => e = .returned (.bool r) ∧ Drawn0 w w' := by
 have HR0:=aM hr0;have HC0:=aM hc0;clear hr0 hc0;have H:((spec_l1In.f a1 1 6).bind fun t250=>(if t250=true then (spec_IsMatrix.j0 k l0 a1 (decide ((l0.length:Int) > 12))) else (spec_IsMatrix.j0 k l0 a1 true)))=some r:=h;clear h;have HC3:=aM H;clear H;go_enter Try.func41,Try.ntmps41;go_upto_region 1 with (fail)
 go_cut [14] (fun v14 wc=>∃(kq:Nat) (x14_2:Bool),v14 = .bool x14_2∧Aside0 (spec_IsMatrix.j0 kq l0 a1 x14_2=some r)∧Aside0 (kq≤k)∧Drawn0 w wc)
 case first=>
  have H:=HC3.out;clear HC3;obtain ⟨t250,A4,H⟩:=bz H;by_cases c5:t250=true
  ·subst c5;replace H:=ifT H;have H':=aM H;clear H;go_wp2_with (first|((with_reducible refine gate_callee (f:=83) rfl ?_);refine gm (some 8) Try.func83 #[.int .i64 a1,.int .i64 1,.int .i64 6] ?_;(with_reducible refine (spec_l1In.calls a1 1 6 true _ A4.out).mono ?_);rintro e w' ⟨rfl,⟨nd,rfl⟩⟩;refine ⟨_,rfl,?_⟩));go_meet;(case rel=>exact ⟨_,(decide ((l0.length:Int) > 12)),zt,H',⟨by first|omega|exact Nat.le_refl _⟩,by repeat (first|exact Drawn0.refl _|apply Drawn0.step)⟩)
  ·replace c5:=Bool.eq_false_iff.mpr c5;subst c5;replace H:=ifF H;have H':=aM H;clear H;go_wp2_with (first|((with_reducible refine gate_callee (f:=83) rfl ?_);refine gm (some 8) Try.func83 #[.int .i64 a1,.int .i64 1,.int .i64 6] ?_;(with_reducible refine (spec_l1In.calls a1 1 6 false _ A4.out).mono ?_);rintro e w' ⟨rfl,⟨nd,rfl⟩⟩;refine ⟨_,rfl,?_⟩));go_meet;(case rel=>exact ⟨_,(true),zt,H',⟨by first|omega|exact Nat.le_refl _⟩,by repeat (first|exact Drawn0.refl _|apply Drawn0.step)⟩)
 case rest=>
  clear HC3;(try clear p2);(try clear c4);(try clear c5);obtain ⟨kq,x14_2,rfl,HA,HJ2,⟨mc2,rfl⟩⟩:=hcut;cases kq with
  | zero=>exact absurd HA.out (by simp [spec_IsMatrix.j0])
  | succ kj2=>
   have H:=HA.out;clear HA;simp only [spec_IsMatrix.j0] at H;by_cases c6:x14_2=true
   ·subst c6;replace H:=ifT H;obtain rfl:=Option.some.inj H;go_wp2;go_ret;exact ⟨zt,zz⟩
   ·replace c6:=Bool.eq_false_iff.mpr c6;subst c6;replace H:=ifF H;have H':=aM H;clear H;go_wp2;go_loopg [5] kj2 (fun kq v5 w'=>∃(x5_2:Int),v5 = .int .i64 x5_2∧Aside0 (spec_IsMatrix.l0 kq l0 a1 x5_2=some r)∧Aside0 (kq≤kj2)∧Drawn0 w w');(case atStart=>exact ⟨(0),zt,H',⟨Nat.le_refl _⟩,by repeat (first|exact Drawn0.refl _|apply Drawn0.step)⟩)
    case round=>
     clear H';(try clear c2);(try clear p2);(try clear c4);(try clear c5);(try clear c6);(try clear p2);obtain ⟨x5_2,rfl,HA,HK2,⟨m2,rfl⟩⟩:=hrel;cases gk with
     | zero=>exact absurd HA.out (by simp [spec_IsMatrix.l0])
     | succ k2=>
      have H:=HA.out;clear HA;simp only [spec_IsMatrix.l0] at H;by_cases c7:x5_2<(l0.length:Int)
      ·rw [if_pos c7] at H;have c7b0:decide (x5_2<(l0.length:Int))=true:=decide_eq_true c7;clear c7;obtain ⟨c8b0,H⟩:=iN H;by_cases c9:((rd_L1 l0 x5_2).length:Int)=a1
       ·rw [if_pos c9] at H;have c9b0:(((rd_L1 l0 x5_2).length:Int) == a1)=true:=beq_iff_eq.mpr c9;have c9b1:(((rd_L1 l0 x5_2).length:Int) != a1)=false:=bne_eq_false_iff_eq.mpr c9;clear c9;have H':=aM H;clear H;have p251:0≤(x5_2:Int):=zd;have q251:x5_2<(l0.length:Int):=zd;obtain ⟨ad251,A251_0,c251_0,e251,hx251_0,hl251_0,hi251_0⟩:=at_L1 HR0.out x5_2 p251 q251;cases e251;have HR251_0:=aM hi251_0;have HC251_0:=aM hl251_0;clear hi251_0 hl251_0;replace p251:=eq_true p251;replace q251:=eq_true q251;go_wp2;go_loopg [6] k2 (fun kq v6 w'=>∃(x6_3:Int),v6 = .int .i64 x6_3∧Aside0 (spec_IsMatrix.l1 kq l0 a1 x5_2 x6_3=some r)∧Aside0 (kq≤k2)∧Drawn0 w w');(case atStart=>exact ⟨(0),zt,H',⟨Nat.le_refl _⟩,by repeat (first|exact Drawn0.refl _|apply Drawn0.step)⟩)
        case round=>
         clear H';(try clear c2);(try clear p2);(try clear q2);(try clear hx2);(try clear c4);(try clear c5);(try clear c6);(try clear c7);(try clear c7b0);(try clear c8);(try clear c8b0);(try clear c9);(try clear c9b0);(try clear c9b1);(try clear hx251_0);(try clear p2);(try clear p251);(try clear q251);obtain ⟨x6_3,rfl,HA,HK3,⟨m3,rfl⟩⟩:=hrel;cases gk with
         | zero=>exact absurd HA.out (by simp [spec_IsMatrix.l1])
         | succ k3=>
          have H:=HA.out;clear HA;simp only [spec_IsMatrix.l1] at H;by_cases c10:x6_3<a1
          ·rw [if_pos c10] at H;have c10b0:decide (x6_3<a1)=true:=decide_eq_true c10;clear c10;obtain ⟨c11b0,H⟩:=iN H;obtain ⟨c12b0,H⟩:=iN H;obtain ⟨c13b0,H⟩:=iN H;obtain ⟨c14b0,H⟩:=iN H;obtain ⟨t254,A15,H⟩:=bz H;by_cases c16:t254=true
           ·subst c16;replace H:=ifT H;have H':=aM H;clear H;have p252:0≤(x5_2:Int):=zd;have q252:x5_2<(l0.length:Int):=zd;obtain ⟨ad252,A252_0,c252_0,e252,hx252_0,hl252_0,hi252_0⟩:=at_L1 HR0.out x5_2 p252 q252;obtain rfl:ad251=ad252:=(by injection e252);have HR252_0:=aM hi252_0;have HC252_0:=aM hl252_0;clear hi252_0 hl252_0;replace p252:=eq_true p252;replace q252:=eq_true q252;have p253:0≤(x6_3:Int):=zd;have q253:x6_3<((rd_L1 l0 x5_2).length:Int):=zd;obtain ⟨ad253,e253,hx253_0⟩:=Kd.at_int HR252_0.out x6_3 p253 q253;cases e253;replace p253:=eq_true p253;replace q253:=eq_true q253;go_wp2_with (first|((with_reducible refine gate_callee (f:=83) rfl ?_);refine gm (some 40) Try.func83 #[.int .i64 (rd (rd_L1 l0 x5_2) x6_3),.int .i64 (-2),.int .i64 2] ?_;(with_reducible refine (spec_l1In.calls (rd (rd_L1 l0 x5_2) x6_3) (-2) 2 true _ A15.out).mono ?_);rintro e w' ⟨rfl,⟨nd,rfl⟩⟩;refine ⟨_,rfl,?_⟩));go_roundg k3;(case measure=>have:=HJ2.out;have:=HK2.out;have:=HK3.out;omega);(case rel=>exact ⟨(wrap64 (x6_3+1)),zt,H',⟨by have:=HJ2.out;have:=HK2.out;have:=HK3.out;omega⟩,by repeat (first|exact Drawn0.refl _|apply Drawn0.step)⟩)
           ·replace c16:=Bool.eq_false_iff.mpr c16;subst c16;replace H:=ifF H;obtain rfl:=Option.some.inj H;have p252:0≤(x5_2:Int):=zd;have q252:x5_2<(l0.length:Int):=zd;obtain ⟨ad252,A252_0,c252_0,e252,hx252_0,hl252_0,hi252_0⟩:=at_L1 HR0.out x5_2 p252 q252;obtain rfl:ad251=ad252:=(by injection e252);have HR252_0:=aM hi252_0;have HC252_0:=aM hl252_0;clear hi252_0 hl252_0;replace p252:=eq_true p252;replace q252:=eq_true q252;have p253:0≤(x6_3:Int):=zd;have q253:x6_3<((rd_L1 l0 x5_2).length:Int):=zd;obtain ⟨ad253,e253,hx253_0⟩:=Kd.at_int HR252_0.out x6_3 p253 q253;cases e253;replace p253:=eq_true p253;replace q253:=eq_true q253;go_wp2_with (first|((with_reducible refine gate_callee (f:=83) rfl ?_);refine gm (some 40) Try.func83 #[.int .i64 (rd (rd_L1 l0 x5_2) x6_3),.int .i64 (-2),.int .i64 2] ?_;(with_reducible refine (spec_l1In.calls (rd (rd_L1 l0 x5_2) x6_3) (-2) 2 false _ A15.out).mono ?_);rintro e w' ⟨rfl,⟨nd,rfl⟩⟩;refine ⟨_,rfl,?_⟩));go_ret;exact ⟨zt,zz⟩
          ·rw [if_neg c10] at H;have c10b0:decide (x6_3<a1)=false:=decide_eq_false c10;clear c10;have H':=aM H;clear H;go_wp2;go_roundg k3;(case measure=>have:=HJ2.out;have:=HK2.out;have:=HK3.out;omega);(case rel=>exact ⟨(wrap64 (x5_2+1)),zt,H',⟨by have:=HJ2.out;have:=HK2.out;have:=HK3.out;omega⟩,by repeat (first|exact Drawn0.refl _|apply Drawn0.step)⟩)
       ·rw [if_neg c9] at H;have c9b0:(((rd_L1 l0 x5_2).length:Int) == a1)=false:=beq_eq_false_iff_ne.mpr c9;have c9b1:(((rd_L1 l0 x5_2).length:Int) != a1)=true:=bne_iff_ne.mpr c9;obtain rfl:=Option.some.inj H;have p251:0≤(x5_2:Int):=zd;have q251:x5_2<(l0.length:Int):=zd;obtain ⟨ad251,A251_0,c251_0,e251,hx251_0,hl251_0,hi251_0⟩:=at_L1 HR0.out x5_2 p251 q251;cases e251;have HR251_0:=aM hi251_0;have HC251_0:=aM hl251_0;clear hi251_0 hl251_0;replace p251:=eq_true p251;replace q251:=eq_true q251;go_wp2;go_ret;exact ⟨zt,zz⟩
      ·rw [if_neg c7] at H;have c7b0:decide (x5_2<(l0.length:Int))=false:=decide_eq_false c7;clear c7;obtain rfl:=Option.some.inj H;go_wp2;go_ret;exact ⟨zt,zz⟩
def impl_DotOf.l0 : Nat → List Int → List Int → Int → Int → Int → Option (Int)
 | 0, _, _, _, _, _ => none
 | k + 1, x0, x1, x5, x11, x12 => if x12 < x11 then (if 0 ≤ x12 then (if x12 < (x0.length : Int) then (if x12 < (x1.length : Int) then (impl_DotOf.l0 k x0 x1 (wrap64 (x5 + (wrap64 ((rd x0 x12) * (rd x1 x12))))) x11 (wrap64 (x12 + 1))) else (none)) else (none)) else (none)) else (some x5)
def impl_DotOf.f (k : Nat) (l0 : List Int) (l1 : List Int) : Option (Int) := impl_DotOf.l0 k l0 l1 0 (mn (l0.length : Int) (l1.length : Int)) 0
set_option maxHeartbeats 8000000 in
set_option maxRecDepth 100000 in
theorem impl_DotOf.calls (k : Nat) (A0 : Option Addr) (c0 : Nat) (l0 : List Int) (A1 : Option Addr) (c1 : Nat) (l1 : List Int) (r : Int) (w : World) (hr0 : Kd.C (Kd.int .i64) w A0 l0.length l0) (hc0 : l0.length ≤ c0) (hr1 : Kd.C (Kd.int .i64) w A1 l1.length l1) (hc1 : l1.length ≤ c1) (h : impl_DotOf.f k l0 l1 = some r) :
 Calls Try.prog 55 #[.slice A0 l0.length c0, .slice A1 l1.length c1] w fun e w' => e = .returned (.int .i64 r) ∧ Below w.heap.size w w' := by
 have HR0:=aM hr0;have HC0:=aM hc0;clear hr0 hc0;have HR1:=aM hr1;have HC1:=aM hc1;clear hr1 hc1;have HB:=aM (Below.refl w.heap.size w);have H:(impl_DotOf.l0 k l0 l1 0 (mn (l0.length:Int) (l1.length:Int)) 0)=some r:=h;clear h;obtain ⟨ji3,hji3⟩:∃j_:Int,(mn (l0.length:Int) (l1.length:Int))=j_:=⟨_,rfl⟩;replace H:(impl_DotOf.l0 k l0 l1 0 ji3 0)=some r:=(by first|(rw [hji3] at H;exact H)|(simp only [hji3] at H ⊢;exact H));(try (have hji3l:0≤ji3:=by (rw [← hji3];unfold mn;(repeat' split)<;>omega)));(try (have hji3m:0≤ji3:=by omega));have hji3_:(if (l1.length:Int)<(l0.length:Int) then (l1.length:Int) else (l0.length:Int))=ji3:=hji3;have hji3n:(if l1.length<l0.length then (l1.length:Int) else (l0.length:Int))=ji3:=(by rw [← hji3_];by_cases c:l1.length<l0.length<;>simp [c]);have H':=aM H;clear H;go_enter Try.func55,Try.ntmps55;go_wp2;(repeat (go_quiet (fail);try go_wp2));go_loopg [5,12] k (fun kq v5 v12 w'=>∃(x5_1:Int) (x12_1:Int),v5 = .int .i64 x5_1∧v12 = .int .i64 x12_1∧Aside0 (impl_DotOf.l0 kq l0 l1 x5_1 ji3 x12_1=some r)∧Aside0 (kq≤k)∧Aside0 (Below w.heap.size w w'));(case atStart=>exact ⟨(0),(0),zt,zt,H',⟨Nat.le_refl _⟩,⟨zb HB.out⟩⟩)
 case round=>
  clear H';(try clear c1);(try clear p2);obtain ⟨x5_1,x12_1,rfl,rfl,HA,HK1,HB⟩:=hrel;cases gk with
  | zero=>exact absurd HA.out (by simp [impl_DotOf.l0])
  | succ k1=>
   have H:=HA.out;clear HA;simp only [impl_DotOf.l0] at H;by_cases c4:x12_1<ji3
   ·rw [if_pos c4] at H;have c4b0:decide (x12_1<ji3)=true:=decide_eq_true c4;clear c4;obtain ⟨c5b0,H⟩:=iN H;obtain ⟨c6b0,H⟩:=iN H;obtain ⟨c7b0,H⟩:=iN H;have H':=aM H;clear H;have p255:0≤(x12_1:Int):=zd;have q255:x12_1<(l0.length:Int):=zd;obtain ⟨ad255,e255,hx255_0⟩:=Kd.at_int HR0.out x12_1 p255 q255;cases e255;replace hx255_0:=(HB.out.cell (World.block_lt_of_cell? w _ hx255_0)).trans hx255_0;replace p255:=eq_true p255;replace q255:=eq_true q255;have p256:0≤(x12_1:Int):=zd;have q256:x12_1<(l1.length:Int):=zd;obtain ⟨ad256,e256,hx256_0⟩:=Kd.at_int HR1.out x12_1 p256 q256;cases e256;replace hx256_0:=(HB.out.cell (World.block_lt_of_cell? w _ hx256_0)).trans hx256_0;replace p256:=eq_true p256;replace q256:=eq_true q256;go_wp2;(repeat (go_quiet (fail);try go_wp2));go_roundg k1;(case measure=>have:=HK1.out;omega);(case rel=>exact ⟨(wrap64 (x5_1+(wrap64 ((rd l0 x12_1)*(rd l1 x12_1))))),(wrap64 (x12_1+1)),zt,zt,H',⟨by have:=HK1.out;omega⟩,⟨zb HB.out⟩⟩)
   ·rw [if_neg c4] at H;have c4b0:decide (x12_1<ji3)=false:=decide_eq_false c4;clear c4;obtain rfl:=Option.some.inj H;go_wp2;(repeat (go_quiet (fail);try go_wp2));go_ret;exact ⟨by first|rfl|(simp [errW_none,errW_some]<;>rfl)|(simp only [← hji3];first|rfl|(simp [errW_none,errW_some]<;>rfl))|(simp [*,errW_none,errW_some]<;>rfl),zb HB.out⟩
mutual
def impl_NullVector.j0 : Nat → List (List Int) → List Int → Int → Bool → Option (List Int)
 | 0, _, _, _, _ => none
 | k + 1, x0, x1, x5, x34 => if x34 = true then (some ([] : List Int)) else ((impl_reduceAny.f k x0 x5).bind fun t277 => (if 0 ≤ x5 then (if (x5 : Int).toNat ≤ 281474976710656 then (impl_NullVector.l0 k x1 x5 t277 1 (List.replicate (x5 : Int).toNat false) t277 (t277.length : Int) 0) else (none)) else (none)))
def impl_NullVector.l0 : Nat → List Int → Int → List (List Int) → Int → List Bool → List (List Int) → Int → Int → Option (List Int)
 | 0, _, _, _, _, _, _, _, _ => none
 | k + 1, x1, x5, x6, x7, x8, x40, x41, x42 => if x42 < x41 then (if 0 ≤ x42 then (if x42 < (x40.length : Int) then ((impl_lead.f k (rd_L1 x40 x42)).bind fun t284 => (if 0 ≤ t284 then (if t284 < (x8.length : Int) then (if t284 < ((rd_L1 x40 x42).length : Int) then ((impl_gcd.f k x7 (rd (rd_L1 x40 x42) t284)).bind fun t287 => (if t287 = 0 then (none) else (impl_NullVector.l0 k x1 x5 x6 (wrap64 ((wrap64 (Int.tdiv x7 t287)) * (rd (rd_L1 x40 x42) t284))) (x8.set (t284 : Int).toNat true) x40 x41 (wrap64 (x42 + 1))))) else (none)) else (none)) else (none))) else (none)) else (none)) else (impl_NullVector.l1 k x1 x5 x6 x7 x8 x5 0)
def impl_NullVector.l1 : Nat → List Int → Int → List (List Int) → Int → List Bool → Int → Int → Option (List Int)
 | 0, _, _, _, _, _, _, _ => none
 | k + 1, x1, x5, x6, x7, x8, x65, x66 => if x66 < x65 then (if 0 ≤ x66 then (if x66 < (x8.length : Int) then (if rdOf false x8 x66 = true then (impl_NullVector.l1 k x1 x5 x6 x7 x8 x65 (wrap64 (x66 + 1))) else (if 0 ≤ x5 then (if (x5 : Int).toNat ≤ 35184372088832 then ((some (List.replicate (x5 : Int).toNat 0 : List Int)).bind fun y290 => (if x66 < (y290.length : Int) then (impl_NullVector.l2 k x1 x5 x6 x7 x8 x66 (y290.set (x66 : Int).toNat x7) x65 x66 x6 (x6.length : Int) 0) else (none))) else (none)) else (none))) else (none)) else (none)) else (some ([] : List Int))
def impl_NullVector.l2 : Nat → List Int → Int → List (List Int) → Int → List Bool → Int → List Int → Int → Int → List (List Int) → Int → Int → Option (List Int)
 | 0, _, _, _, _, _, _, _, _, _, _, _, _ => none
 | k + 1, x1, x5, x6, x7, x8, x12, x13, x65, x66, x79, x80, x81 => if x81 < x80 then (if 0 ≤ x81 then (if x81 < (x79.length : Int) then ((impl_lead.f k (rd_L1 x79 x81)).bind fun t295 => (if 0 ≤ x12 then (if x12 < ((rd_L1 x79 x81).length : Int) then (if 0 ≤ t295 then (if t295 < ((rd_L1 x79 x81).length : Int) then (if (rd (rd_L1 x79 x81) t295) = 0 then (none) else (if t295 < (x13.length : Int) then (impl_NullVector.l2 k x1 x5 x6 x7 x8 x12 (x13.set (t295 : Int).toNat (wrap64 ((wrap64 (-(rd (rd_L1 x79 x81) x12))) * (wrap64 (Int.tdiv x7 (rd (rd_L1 x79 x81) t295)))))) x65 x66 x79 x80 (wrap64 (x81 + 1))) else (none))) else (none)) else (none)) else (none)) else (none))) else (none)) else (none)) else ((impl_DotOf.f k x13 x1).bind fun t299 => (if t299 = 0 then (impl_NullVector.l1 k x1 x5 x6 x7 x8 x65 (wrap64 (x66 + 1))) else (some x13)))
end
def impl_NullVector.f (k : Nat) (l0 : List (List Int)) (l1 : List Int) : Option (List Int) := (impl_IsMatrix.f k l0 (l1.length : Int)).bind fun t271 => (if t271 = true then ((impl_IsMatrix.f k (([l1] : List (List Int))) (l1.length : Int)).bind fun t275 => (if t275 = true then ((impl_IsInSpan.f k l0 l1).bind fun t276 => (impl_NullVector.j0 k l0 l1 (l1.length : Int) t276)) else (impl_NullVector.j0 k l0 l1 (l1.length : Int) true))) else (impl_NullVector.j0 k l0 l1 (l1.length : Int) true))
def impl_NullVector.T12 : Bool × List (List Nat × List Nat) := (true, [([], []), ([], []), ([], []), ([], []), ([2, 3], [2, 3]), ([4], [4]), ([1, 5], [1, 5]), ([0, 6], [0, 6]), ([], []), ([], []), ([8, 9], [8, 9]), ([10], [10]), ([7, 11], [7, 11]), ([12, 6, 0, 1, 2, 3, 4, 5, 6, 7, 8, 9, 10, 11, 12], [0, 1, 12])])
def impl_NullVector.B12 : List Nat := [0, 0, 0, 0, 12, 28, 62, 127, 0, 0, 768, 1792, 4095, 8191]
theorem impl_NullVector.tab12 : rtab .any (opsOf Try.f42 12) = impl_NullVector.T12 := by kernel_rfl
theorem impl_NullVector.bits12 : waitsOk impl_NullVector.T12.2 impl_NullVector.B12 = true := by kernel_rfl
def impl_NullVector.T24 : Bool × List (List Nat × List Nat) := (true, [([], []), ([], []), ([], []), ([], []), ([2, 3], [2, 3]), ([4], [4]), ([5], [5]), ([], []), ([], []), ([], []), ([8, 9], [8, 9]), ([10], [10]), ([7, 11], [7, 11]), ([6, 12], [6, 12]), ([0, 1, 0, 1, 2, 3, 4, 5, 6, 7, 8, 9, 10, 11, 12, 13], [0, 1]), ([14, 13, 0, 1, 2, 3, 4, 5, 6, 7, 8, 9, 10, 11, 12, 13], [13, 14])])
def impl_NullVector.B24 : List Nat := [0, 0, 0, 0, 12, 28, 60, 0, 0, 0, 768, 1792, 3968, 8188, 16383, 32767]
theorem impl_NullVector.tab24 : rtab .any (opsOf Try.f42 24) = impl_NullVector.T24 := by kernel_rfl
theorem impl_NullVector.bits24 : waitsOk impl_NullVector.T24.2 impl_NullVector.B24 = true := by kernel_rfl
set_option maxHeartbeats 8000000 in
set_option maxRecDepth 100000 in
theorem impl_NullVector.callsV (k : Nat) (A0 : Option Addr) (c0 : Nat) (l0 : List (List Int)) (P1_ : Nat → Prop) (A1 : Option Addr) (c1 : Nat) (l1 : List Int) (r : List Int) (w : World) (hr0 : Kd.C (Kd.slice 3 (Kd.int .i64)) w A0 l0.length l0) (hc0 : l0.length ≤ c0) (hs1 : Kd.V (Kd.int .i64) 3 w w.heap.size (fun k_ => P1_ k_) (.slice A1 l1.length c1) l1) (h : impl_NullVector.f k l0 l1 = some r) :
  Calls Try.prog 42 #[.slice A0 l0.length c0, .slice A1 l1.length c1] w fun e w' => ∃ v0_ : Value, e = .returned (v0_) ∧ Kd.R (Kd.int .i64) 3 w' w.heap.size (fun k_ => (w.heap.size ≤ k_)) v0_ r ∧ Below w.heap.size w w' := by
 have HR0 := Aside0.mk hr0
 have HC0 := Aside0.mk hc0
 clear hr0 hc0
 have HO1 := Aside0.mk (show Kd.V (Kd.int .i64) 3 w w.heap.size (fun k_ => (P1_ k_ ∨ w.heap.size ≤ k_)) (.slice A1 l1.length c1) l1 from Kd.V_mono hs1 (fun k_ hk => .inl hk))
 have HB := Aside0.mk (Below.refl w.heap.size w)
 have H : ((impl_IsMatrix.f k l0 (l1.length : Int)).bind fun t271 => (if t271 = true then ((impl_IsMatrix.f k (([l1] : List (List Int))) (l1.length : Int)).bind fun t275 => (if t275 = true then ((impl_IsInSpan.f k l0 l1).bind fun t276 => (impl_NullVector.j0 k l0 l1 (l1.length : Int) t276)) else (impl_NullVector.j0 k l0 l1 (l1.length : Int) true))) else (impl_NullVector.j0 k l0 l1 (l1.length : Int) true))) = some r := h
 clear h
 have HC3 := Aside0.mk H
 clear H
 go_enter Try.func42, Try.ntmps42
 go_upto_region 2 with (fail)
 go_cut [34] (fun v34 wc => ∃ (kq : Nat) (x34_2 : Bool), v34 = .bool x34_2 ∧ Aside0 (impl_NullVector.j0 kq l0 l1 (l1.length : Int) x34_2 = some r) ∧ Aside0 (kq ≤ k) ∧ Aside0 (Kd.V (Kd.int .i64) 3 wc w.heap.size (fun k_ => (P1_ k_ ∨ w.heap.size ≤ k_)) (.slice A1 l1.length c1) l1) ∧ Aside0 (Below w.heap.size w wc))
 case first =>
  have H := HC3.out
  clear HC3
  replace H := Option.bind_eq_some_iff.mp H
  obtain ⟨t271, A40, H⟩ := H
  replace H : (if t271 = true then ((impl_IsMatrix.f k (([l1] : List (List Int))) (l1.length : Int)).bind fun t275 => (if t275 = true then ((impl_IsInSpan.f k l0 l1).bind fun t276 => (impl_NullVector.j0 k l0 l1 (l1.length : Int) t276)) else (impl_NullVector.j0 k l0 l1 (l1.length : Int) true))) else (impl_NullVector.j0 k l0 l1 (l1.length : Int) true)) = some r := H
  have A4 := Aside0.mk A40
  clear A40
  by_cases c5 : t271 = true
  ·subst c5
   have H1 : ((impl_IsMatrix.f k (([l1] : List (List Int))) (l1.length : Int)).bind fun t275 => (if t275 = true then ((impl_IsInSpan.f k l0 l1).bind fun t276 => (impl_NullVector.j0 k l0 l1 (l1.length : Int) t276)) else (impl_NullVector.j0 k l0 l1 (l1.length : Int) true))) = some r := by rw [if_pos rfl] at H;exact H
   clear H
   have H := H1
   clear H1
   obtain ⟨y272, hy272⟩ : ∃ y_ : List (List Int), y_ = (([l1] : List (List Int))) := ⟨_, rfl⟩
   replace H : ((impl_IsMatrix.f k y272 (l1.length : Int)).bind fun t275 => (if t275 = true then ((impl_IsInSpan.f k l0 l1).bind fun t276 => (impl_NullVector.j0 k l0 l1 (l1.length : Int) t276)) else (impl_NullVector.j0 k l0 l1 (l1.length : Int) true))) = some r := by first|(rw [hy272];with_reducible exact H)|(have H2_ := (Option.bind_some _ _).symm.trans H;rw [hy272];with_reducible exact H2_)|(have H2_ := (Option.bind_some _ _).symm.trans H;with_reducible exact H2_)|with_reducible exact H|(rw [hy272];exact H)|exact H
   have Ny272 := Aside0.mk hy272
   clear hy272
   replace H := Option.bind_eq_some_iff.mp H
   obtain ⟨t275, A60, H⟩ := H
   replace H : (if t275 = true then ((impl_IsInSpan.f k l0 l1).bind fun t276 => (impl_NullVector.j0 k l0 l1 (l1.length : Int) t276)) else (impl_NullVector.j0 k l0 l1 (l1.length : Int) true)) = some r := H
   have A6 := Aside0.mk A60
   clear A60
   by_cases c7 : t275 = true
   ·subst c7
    have H1 : ((impl_IsInSpan.f k l0 l1).bind fun t276 => (impl_NullVector.j0 k l0 l1 (l1.length : Int) t276)) = some r := by rw [if_pos rfl] at H;exact H
    clear H
    have H := H1
    clear H1
    replace H := Option.bind_eq_some_iff.mp H
    obtain ⟨t276, A80, H⟩ := H
    replace H : (impl_NullVector.j0 k l0 l1 (l1.length : Int) t276) = some r := H
    have A8 := Aside0.mk A80
    clear A80
    have H' := Aside0.mk H
    clear H
    go_wp2_with ((with_reducible refine gate_callee (f := 40) rfl ?_);refine goesL_ (some 21) rfl rfl Try.func40 (by kernel_rfl) rfl #[.slice A0 l0.length c0, .int .i64 (l1.length : Int)] rfl (by (try simp only [List.map_toArray, List.map_cons, List.map_nil]);first|done|rfl|(simp only [List.length_drop, List.length_take];rfl)) ?_;(with_reducible refine (impl_IsMatrix.calls k _ _ l0 (l1.length : Int) true _ ?side1 ?side2 A4.out).mono ?_);(case side1 => repeat (first|exact (Kd.C_below HR0.out HB.out)|(with_reducible refine Kd.C_alloc ?_ _)|(with_reducible refine Kd.C_drewN ?_ _)|(with_reducible refine Kd.C_drew ?_)));(case side2 => exact HC0.out);rintro e w' ⟨rfl, ⟨nd, rfl⟩⟩;refine ⟨_, rfl, ?_⟩)
    have A6b := Aside0.mk (show impl_IsMatrix.f k ([l1] : List (List Int)) (l1.length : Int) = some true by rw [← Ny272.out];exact A6.out)
    refine (impl_IsMatrix.calls k _ _ ([l1] : List (List Int)) (l1.length : Int) true _ ?sideA ?sideB A6b.out).mono ?_
    case sideA => exact YtojkepidkmkmpaaRed.one_C (Kd.C_alloc (Kd.C_drewN (Kd.V_reads' HO1.out).2.2 _) _) (Kd.V_reads' HO1.out).2.1 (YtojkepidkmkmpaaRed.cell_new _ _ _)
    case sideB => exact Nat.le_refl _
    rintro e w' ⟨rfl, ⟨nd2_, rfl⟩⟩
    go_wp2_with fail
    refine (impl_IsInSpan.callsV k (fun k_ => k_ < w.heap.size) _ _ l0 (fun k_ => (P1_ k_ ∨ w.heap.size ≤ k_)) _ _ l1 t276 _ ?sideC ?sideD A8.out).mono ?_
    case sideC => exact Kd.V_mk HC0.out (Kd.F_below (Kd.C_F (Kd.heap_slice 3 (Kd.heap_int .i64)) HR0.out) (by repeat first|(with_reducible first|exact HB.out|apply below_alloc|apply pw_below_drewN|apply below_drew1)|exact HB.out))
    case sideD => exact Kd.V_drewN (Kd.V_alloc (Kd.V_drewN HO1.out _) _) _
    rintro e w12 ⟨rfl, hb⟩
    have n0_ := Aside0.mk (Kd.V_below (Kd.V_drewN (Kd.V_alloc (Kd.V_drewN HO1.out _) _) _) hb)
    have n2_ := Aside0.mk (below_step (by repeat first|(with_reducible first|exact HB.out|apply below_alloc|apply pw_below_drewN|apply below_drew1)|exact HB.out) hb)
    clear HO1;clear HB;have HO1 := n0_;have HB := n2_;clear n0_ n2_ hb
    go_wp2
    go_meet
    case rel => exact ⟨_, (t276), (by first|rfl|(simp;done)|(simp [*];done)), H', ⟨by first|omega|exact Nat.le_refl _⟩, ⟨by (with_reducible repeat (first|apply Kd.V_alloc|apply Kd.V_drewN|apply Kd.V_drew));(first|exact HO1.out|exact Kd.V_mono HO1.out (fun _ hk => hk.1))⟩, ⟨by repeat (first|(with_reducible first|exact HB.out|apply below_alloc|apply pw_below_drewN|apply below_drew1)|exact HB.out)⟩⟩
   ·replace c7 := Bool.eq_false_iff.mpr c7
    subst c7
    have H1 : (impl_NullVector.j0 k l0 l1 (l1.length : Int) true) = some r := by rw [if_neg (show ¬ (false = true) by decide)] at H;exact H
    clear H
    have H := H1
    clear H1
    have H' := Aside0.mk H
    clear H
    go_wp2_with ((with_reducible refine gate_callee (f := 40) rfl ?_);refine goesL_ (some 21) rfl rfl Try.func40 (by kernel_rfl) rfl #[.slice A0 l0.length c0, .int .i64 (l1.length : Int)] rfl (by (try simp only [List.map_toArray, List.map_cons, List.map_nil]);first|done|rfl|(simp only [List.length_drop, List.length_take];rfl)) ?_;(with_reducible refine (impl_IsMatrix.calls k _ _ l0 (l1.length : Int) true _ ?side1 ?side2 A4.out).mono ?_);(case side1 => repeat (first|exact (Kd.C_below HR0.out HB.out)|(with_reducible refine Kd.C_alloc ?_ _)|(with_reducible refine Kd.C_drewN ?_ _)|(with_reducible refine Kd.C_drew ?_)));(case side2 => exact HC0.out);rintro e w' ⟨rfl, ⟨nd, rfl⟩⟩;refine ⟨_, rfl, ?_⟩)
    have A6b := Aside0.mk (show impl_IsMatrix.f k ([l1] : List (List Int)) (l1.length : Int) = some false by rw [← Ny272.out];exact A6.out)
    refine (impl_IsMatrix.calls k _ _ ([l1] : List (List Int)) (l1.length : Int) false _ ?sideA ?sideB A6b.out).mono ?_
    case sideA => exact YtojkepidkmkmpaaRed.one_C (Kd.C_alloc (Kd.C_drewN (Kd.V_reads' HO1.out).2.2 _) _) (Kd.V_reads' HO1.out).2.1 (YtojkepidkmkmpaaRed.cell_new _ _ _)
    case sideB => exact Nat.le_refl _
    rintro e w' ⟨rfl, ⟨nd2_, rfl⟩⟩
    go_wp2
    go_meet
    case rel => exact ⟨_, (true), (by first|rfl|(simp;done)|(simp [*];done)), H', ⟨by first|omega|exact Nat.le_refl _⟩, ⟨by (with_reducible repeat (first|apply Kd.V_alloc|apply Kd.V_drewN|apply Kd.V_drew));(first|exact HO1.out|exact Kd.V_mono HO1.out (fun _ hk => hk.1))⟩, ⟨by repeat (first|(with_reducible first|exact HB.out|apply below_alloc|apply pw_below_drewN|apply below_drew1)|exact HB.out)⟩⟩
  ·replace c5 := Bool.eq_false_iff.mpr c5
   subst c5
   have H1 : (impl_NullVector.j0 k l0 l1 (l1.length : Int) true) = some r := by rw [if_neg (show ¬ (false = true) by decide)] at H;exact H
   clear H
   have H := H1
   clear H1
   have H' := Aside0.mk H
   clear H
   go_wp2_with (first|((with_reducible refine gate_callee (f := 40) rfl ?_);refine goesL_ (some 21) rfl rfl Try.func40 (by kernel_rfl) rfl #[.slice A0 l0.length c0, .int .i64 (l1.length : Int)] rfl (by (try simp only [List.map_toArray, List.map_cons, List.map_nil]);first|done|rfl|(simp only [List.length_drop, List.length_take];rfl)) ?_;(with_reducible refine (impl_IsMatrix.calls k _ _ l0 (l1.length : Int) false _ ?side1 ?side2 A4.out).mono ?_);(case side1 => repeat (first|exact (Kd.C_below HR0.out HB.out)|(with_reducible refine Kd.C_alloc ?_ _)|(with_reducible refine Kd.C_drewN ?_ _)|(with_reducible refine Kd.C_drew ?_)));(case side2 => exact HC0.out);rintro e w' ⟨rfl, ⟨nd, rfl⟩⟩;refine ⟨_, rfl, ?_⟩))
   go_meet
   case rel => exact ⟨_, (true), (by first|rfl|(simp;done)|(simp [*];done)), H', ⟨by first|omega|exact Nat.le_refl _⟩, ⟨by (with_reducible repeat (first|apply Kd.V_alloc|apply Kd.V_drewN|apply Kd.V_drew));exact HO1.out⟩, ⟨by repeat (first|(with_reducible first|exact HB.out|apply below_alloc|apply pw_below_drewN|apply below_drew1)|exact HB.out)⟩⟩
 case rest =>
  clear HC3
  try clear c1
  try clear p2
  try clear c4
  try clear c5
  try clear c7
  obtain ⟨kq, x34_2, rfl, HA, HJ2, HO_1, HB⟩ := hcut
  cases kq with
 |zero => exact absurd HA.out (by simp [impl_NullVector.j0])
 |succ kj2 =>
   have H := HA.out
   clear HA
   simp only [impl_NullVector.j0] at H
   by_cases c16 : x34_2 = true
   ·subst c16
    have H1 : (some ([] : List Int)) = some r := by rw [if_pos rfl] at H;exact H
    clear H
    have H := H1
    clear H1
    obtain rfl := Option.some.inj H
    go_wp2
    go_ret
    exact ⟨_, by first|rfl|(simp [errW_none, errW_some] <;> rfl)|(simp [*, errW_none, errW_some] <;> rfl), by first|exact Kd.R_nil _ _ _ _ _|exact Kd.N_nil _ _ _ _ _|exact Kd.V_nil _ _ _ _ _|exact Kd.Q_nil _ _ _ _ _|exact Kd.S_nil _ _ _ _ _, by repeat (first|(with_reducible first|exact HB.out|apply below_alloc|apply pw_below_drewN|apply below_drew1)|exact HB.out)⟩
   ·replace c16 := Bool.eq_false_iff.mpr c16
    subst c16
    have H1 : ((impl_reduceAny.f kj2 l0 (l1.length : Int)).bind fun t277 => (if 0 ≤ (l1.length : Int) then (if ((l1.length : Int) : Int).toNat ≤ 281474976710656 then (impl_NullVector.l0 kj2 l1 (l1.length : Int) t277 1 (List.replicate ((l1.length : Int) : Int).toNat false) t277 (t277.length : Int) 0) else (none)) else (none))) = some r := by rw [if_neg (show ¬ (false = true) by decide)] at H;exact H
    clear H
    have H := H1
    clear H1
    replace H := Option.bind_eq_some_iff.mp H
    obtain ⟨t277, A170, H⟩ := H
    replace H : (if 0 ≤ (l1.length : Int) then (if ((l1.length : Int) : Int).toNat ≤ 281474976710656 then (impl_NullVector.l0 kj2 l1 (l1.length : Int) t277 1 (List.replicate ((l1.length : Int) : Int).toNat false) t277 (t277.length : Int) 0) else (none)) else (none)) = some r := H
    have A17 := Aside0.mk A170
    clear A170
    by_cases c18 : 0 ≤ (l1.length : Int)
    ·rw [if_pos c18] at H
     have c18b0 := eq_true c18
     have c18b1 : decide (0 ≤ (l1.length : Int)) = true := decide_eq_true c18
     clear c18
     by_cases c19 : ((l1.length : Int) : Int).toNat ≤ 281474976710656
     ·rw [if_pos c19] at H
      have c19b0 := eq_true c19
      have c19b1 : decide (((l1.length : Int) : Int).toNat ≤ 281474976710656) = true := decide_eq_true c19
      clear c19
      obtain ⟨y280, hy280⟩ : ∃ y_ : List Bool, y_ = (List.replicate ((l1.length : Int) : Int).toNat false) := ⟨_, rfl⟩
      replace H : (impl_NullVector.l0 kj2 l1 (l1.length : Int) t277 1 y280 t277 (t277.length : Int) 0) = some r := by first|(rw [hy280];with_reducible exact H)|(have H2_ := (Option.bind_some _ _).symm.trans H;rw [hy280];with_reducible exact H2_)|(have H2_ := (Option.bind_some _ _).symm.trans H;with_reducible exact H2_)|with_reducible exact H|(rw [hy280];exact H)|exact H
      have Ny280 := Aside0.mk hy280
      clear hy280
      have H' := Aside0.mk H
      clear H
      go_wp2_with (first|((with_reducible refine gate_callee (f := 77) rfl ?_);refine goesL_ (some 37) rfl rfl Try.func77 (by kernel_rfl) rfl #[.slice A0 l0.length c0, .int .i64 (l1.length : Int)] rfl (by (try simp only [List.map_toArray, List.map_cons, List.map_nil]);first|done|rfl|(simp only [List.length_drop, List.length_take];rfl)) ?_;(with_reducible refine (impl_reduceAny.calls kj2 _ _ l0 (l1.length : Int) t277 _ ?side1 ?side2 A17.out).mono ?_);(case side1 => repeat (first|exact (Kd.C_below HR0.out HB.out)|(with_reducible refine Kd.C_alloc ?_ _)|(with_reducible refine Kd.C_drewN ?_ _)|(with_reducible refine Kd.C_drew ?_)));(case side2 => exact HC0.out);rintro e w20 ⟨v278, rfl, ho0, hb⟩;refine ⟨_, rfl, ?_⟩;have n0_ := Aside0.mk (Kd.V_elder' (by (with_reducible repeat (first|apply Kd.V_alloc|apply Kd.V_drewN|apply Kd.V_drew));exact HO_1.out) (by first|exact Kd.N_base ho0|exact Kd.S_base ho0) hb);have n1_ := Aside0.mk (Kd.N_lower (Kd.N_mono (ok' := fun k_ => (P1_ k_ ∨ w.heap.size ≤ k_)) (Kd.S_N (Kd.S_bound ho0)) (fun k_ hk_ => (.inr (Nat.le_trans (below_size (by repeat first|(with_reducible first|exact HB.out|apply below_alloc|apply pw_below_drewN|apply below_drew1)|exact HB.out)) hk_.2.1)))) (below_size (by repeat first|(with_reducible first|exact HB.out|apply below_alloc|apply pw_below_drewN|apply below_drew1)|exact HB.out)));have n2_ := Aside0.mk (below_step (by repeat first|(with_reducible first|exact HB.out|apply below_alloc|apply pw_below_drewN|apply below_drew1)|exact HB.out) hb);clear HO_1;clear HB;have HO_1 := n0_;have HO279 := n1_;have HB := n2_;clear n0_ n1_ n2_;(try clear hb);(try clear hb2);(try clear hk);(try clear hi);(try clear ho0))|((with_reducible refine gate_dst (N := 39) rfl ?_);(try (refine gate_guard (by rfl) ?_;dsimp only));refine Kd.R_make Kd.bool _ 4 rfl (N := 39) rfl 81 _ _ rfl (l1.length : Int) rfl rfl Try.underlying81 (.bool false) 1 info4 rfl (by decide) (by omega) false (ok := fun _ => True) (okp := fun _ => True) rfl (fun _ hk => hk) trivial (of_decide_eq_true (by first|(with_reducible assumption)|assumption)) (Nat.le_trans (Nat.mul_le_mul_right _ (of_decide_eq_true (by first|(with_reducible assumption)|assumption) : (l1.length : Int).toNat ≤ 281474976710656)) (by omega)) (Below.refl _ _) (Nat.le_refl _) ?_;intro v281 w21 ho22 hb hg_ hnew_;clear hg_ hnew_;(first|rw [← Ny280.out] at ho22|(simp only [Int.reduceToNat] at ho22;rw [← Ny280.out] at ho22));have n0_ := Aside0.mk (Kd.V_elder' (by (with_reducible repeat (first|apply Kd.V_alloc|apply Kd.V_drewN|apply Kd.V_drew));exact HO_1.out) (Kd.R_base ho22) hb);have n1_ := Aside0.mk (Kd.N_elder' (by (with_reducible repeat (first|apply Kd.N_alloc|apply Kd.N_drewN|apply Kd.N_drew));exact HO279.out) (Kd.R_base ho22) hb);have n2_ := Aside0.mk (Kd.R_lower (Kd.R_newM (M := fun k_ => (w.heap.size ≤ k_)) ho22 (below_size (by repeat first|(with_reducible first|exact HB.out|apply below_alloc|apply pw_below_drewN|apply below_drew1)|exact HB.out)) (fun k_ h_ => h_)) (below_size (by repeat first|(with_reducible first|exact HB.out|apply below_alloc|apply pw_below_drewN|apply below_drew1)|exact HB.out)));have n3_ := Aside0.mk (below_step (by repeat first|(with_reducible first|exact HB.out|apply below_alloc|apply pw_below_drewN|apply below_drew1)|exact HB.out) hb);clear HO_1;clear HO279;clear HB;have HO_1 := n0_;have HO279 := n1_;have HO282 := n2_;have HB := n3_;clear n0_ n1_ n2_ n3_;clear hb ho22;obtain ⟨Ao23, co23, eo23⟩ := Kd.N_slice HO279.out;subst eo23))
      go_loopg [7, 42] kj2 (fun kq v7 v42 w' => ∃ (x7_2 : Int) (x8_2 : List Bool) (x42_2 : Int), v7 = .int .i64 x7_2 ∧ v42 = .int .i64 x42_2 ∧ Aside0 (impl_NullVector.l0 kq l1 (l1.length : Int) t277 x7_2 x8_2 t277 (t277.length : Int) x42_2 = some r) ∧ Aside0 (kq ≤ kj2) ∧ Aside0 (Kd.V (Kd.int .i64) 3 w' w.heap.size (fun k_ => (P1_ k_ ∨ w.heap.size ≤ k_) ∧ some k_ ≠ ((.slice Ao23 t277.length co23) : Value).ownBlock ∧ some k_ ≠ (v281 : Value).ownBlock ∧ some k_ ≠ ((.slice Ao23 t277.length co23) : Value).ownBlock) (.slice A1 l1.length c1) l1) ∧ Aside0 (Kd.N (Kd.slice 3 (Kd.int .i64)) 23 w' w.heap.size (fun k_ => (P1_ k_ ∨ w.heap.size ≤ k_) ∧ some k_ ≠ (v281 : Value).ownBlock) (.slice Ao23 t277.length co23) t277) ∧ Aside0 (Kd.R Kd.bool 4 w' w.heap.size (fun k_ => (w.heap.size ≤ k_)) v281 x8_2) ∧ Aside0 (Kd.N (Kd.slice 3 (Kd.int .i64)) 23 w' w.heap.size (fun k_ => (P1_ k_ ∨ w.heap.size ≤ k_) ∧ some k_ ≠ (v281 : Value).ownBlock) (.slice Ao23 t277.length co23) t277) ∧ Aside0 (Below w.heap.size w w'))
      case atStart => exact ⟨(1), (y280), (0), (by first|rfl|(simp;done)|(simp [*];done)), (by first|rfl|(simp;done)|(simp [*];done)), H', ⟨Nat.le_refl _⟩, ⟨by (with_reducible repeat (first|apply Kd.V_alloc|apply Kd.V_drewN|apply Kd.V_drew));exact Kd.V_mono HO_1.out (fun _ hk => by first|exact ⟨hk.1.1, ⟨hk.1.2, ⟨hk.2, hk.1.2⟩⟩⟩|((repeat' apply And.intro) <;> first|exact hk.1|exact hk.2|exact hk.1.1|exact hk.1.2|exact hk.2.1|exact hk.2.2|exact hk.1.1.1|exact hk.1.1.2|exact hk.1.2.1|exact hk.1.2.2|exact hk.2.1.1|exact hk.2.1.2|exact hk.2.2.1|exact hk.2.2.2|exact hk.2.2.2.1|exact hk.2.2.2.2|exact hk.1.2.2.1|exact hk.1.2.2.2|exact hk.1.2.2.2.1|exact hk.1.2.2.2.2))⟩, ⟨by (with_reducible repeat (first|apply Kd.N_alloc|apply Kd.N_drewN|apply Kd.N_drew));exact HO279.out⟩, ⟨by (with_reducible repeat (first|apply Kd.R_alloc|apply Kd.R_drewN|apply Kd.R_drew));exact Kd.R_mono HO282.out (fun _ hk => hk.1)⟩, ⟨by (with_reducible repeat (first|apply Kd.N_alloc|apply Kd.N_drewN|apply Kd.N_drew));exact HO279.out⟩, ⟨by repeat (first|(with_reducible first|exact HB.out|apply below_alloc|apply pw_below_drewN|apply below_drew1)|exact HB.out)⟩⟩
      case round =>
       clear H'
       try clear c1
       try clear p2
       try clear c4
       try clear c5
       try clear c7
       try clear c16
       try clear c18
       try clear c18b0
       try clear c18b1
       try clear c19
       try clear c19b0
       try clear c19b1
       try clear p2
       obtain ⟨x7_2, x8_2, x42_2, rfl, rfl, HA, HK2, HO_1, HO_6, HO_8, HO_40, HB⟩ := hrel
       cases gk with
      |zero => exact absurd HA.out (by simp [impl_NullVector.l0])
      |succ k2 =>
        have H := HA.out
        clear HA
        simp only [impl_NullVector.l0] at H
        by_cases c24 : x42_2 < (t277.length : Int)
        ·rw [if_pos c24] at H
         have c24b0 : decide (x42_2 < (t277.length : Int)) = true := decide_eq_true c24
         clear c24
         by_cases c25 : 0 ≤ x42_2
         ·rw [if_pos c25] at H
          have c25b0 : decide (0 ≤ x42_2) = true := decide_eq_true c25
          clear c25
          by_cases c26 : x42_2 < (t277.length : Int)
          ·rw [if_pos c26] at H
           have c26b0 : decide (x42_2 < (t277.length : Int)) = true := decide_eq_true c26
           clear c26
           replace H := Option.bind_eq_some_iff.mp H
           obtain ⟨t284, A270, H⟩ := H
           replace H : (if 0 ≤ t284 then (if t284 < (x8_2.length : Int) then (if t284 < ((rd_L1 t277 x42_2).length : Int) then ((impl_gcd.f k2 x7_2 (rd (rd_L1 t277 x42_2) t284)).bind fun t287 => (if t287 = 0 then (none) else (impl_NullVector.l0 k2 l1 (l1.length : Int) t277 (wrap64 ((wrap64 (Int.tdiv x7_2 t287)) * (rd (rd_L1 t277 x42_2) t284))) (x8_2.set (t284 : Int).toNat true) t277 (t277.length : Int) (wrap64 (x42_2 + 1))))) else (none)) else (none)) else (none)) = some r := H
           have A27 := Aside0.mk A270
           clear A270
           by_cases c28 : 0 ≤ t284
           ·rw [if_pos c28] at H
            have c28b0 : decide (0 ≤ t284) = true := decide_eq_true c28
            clear c28
            by_cases c29 : t284 < (x8_2.length : Int)
            ·rw [if_pos c29] at H
             have c29b0 : decide (t284 < (x8_2.length : Int)) = true := decide_eq_true c29
             clear c29
             obtain ⟨y285, hy285⟩ : ∃ y_ : List Bool, y_ = (x8_2.set (t284 : Int).toNat true) := ⟨_, rfl⟩
             replace H : (if t284 < ((rd_L1 t277 x42_2).length : Int) then ((impl_gcd.f k2 x7_2 (rd (rd_L1 t277 x42_2) t284)).bind fun t287 => (if t287 = 0 then (none) else (impl_NullVector.l0 k2 l1 (l1.length : Int) t277 (wrap64 ((wrap64 (Int.tdiv x7_2 t287)) * (rd (rd_L1 t277 x42_2) t284))) y285 t277 (t277.length : Int) (wrap64 (x42_2 + 1))))) else (none)) = some r := by first|(rw [hy285];with_reducible exact H)|(have H2_ := (Option.bind_some _ _).symm.trans H;rw [hy285];with_reducible exact H2_)|(have H2_ := (Option.bind_some _ _).symm.trans H;with_reducible exact H2_)|with_reducible exact H|(rw [hy285];exact H)|exact H
             have Ny285 := Aside0.mk hy285
             clear hy285
             by_cases c31 : t284 < ((rd_L1 t277 x42_2).length : Int)
             ·rw [if_pos c31] at H
              have c31b0 : decide (t284 < ((rd_L1 t277 x42_2).length : Int)) = true := decide_eq_true c31
              clear c31
              replace H := Option.bind_eq_some_iff.mp H
              obtain ⟨t287, A320, H⟩ := H
              replace H : (if t287 = 0 then (none) else (impl_NullVector.l0 k2 l1 (l1.length : Int) t277 (wrap64 ((wrap64 (Int.tdiv x7_2 t287)) * (rd (rd_L1 t277 x42_2) t284))) y285 t277 (t277.length : Int) (wrap64 (x42_2 + 1)))) = some r := H
              have A32 := Aside0.mk A320
              clear A320
              by_cases c33 : t287 = 0
              ·rw [if_pos c33] at H
               exact absurd H (by simp)
              ·rw [if_neg c33] at H
               have c33b0 : (t287 == 0) = false := beq_eq_false_iff_ne.mpr c33
               have c33b1 : (t287 != 0) = true := bne_iff_ne.mpr c33
               have H' := Aside0.mk H
               clear H
               have p283 : 0 ≤ (x42_2 : Int) := of_decide_eq_true (by first|(with_reducible assumption)|assumption)
               have q283 : x42_2 < (t277.length : Int) := of_decide_eq_true (by first|(with_reducible assumption)|assumption)
               obtain ⟨ad283, A283_0, c283_0, e283, hx283_0, hl283_0, hi283_0⟩ := at_L1 (Kd.N_reads' HO_40.out).2.2 x42_2 p283 q283
               cases e283
               obtain ⟨ce283, hce283, hMe283, hcc283⟩ := Kd.N_get HO_40.out [] x42_2 p283 (by first|exact q283|exact of_decide_eq_true (by first|(with_reducible assumption)|assumption)|(have e_ := (Kd.N_reads' HO_40.out).1;omega))
               obtain ⟨ua283_0, uc283_0, rfl, ul283_0, ge283_0⟩ := Kd.FK_slice_open hMe283
               have hv283_0 := hcc283 0 _ rfl
               rw [Nat.add_zero, show ((Kd.slice 3 (Kd.int .i64))).sz = 1 from rfl, Nat.mul_one] at hv283_0
               replace hv283_0 := Option.some.inj (hv283_0.symm.trans hx283_0)
               injection hv283_0 with hva_ hvn_ hvc_
               rw [hva_] at ge283_0
               rw [hvc_] at ul283_0
               have HL283_0 := Aside0.mk (show Kd.V (Kd.int .i64) 3 _ w.heap.size _ _ (rd_L1 t277 x42_2) from Kd.V_mk ul283_0 ge283_0)
               clear hva_ hvn_ hvc_ ge283_0 ul283_0
               clear hcc283 hce283
               have HR283_0 := Aside0.mk hi283_0
               have HC283_0 := Aside0.mk hl283_0
               clear hi283_0 hl283_0
               replace p283 := eq_true p283
               replace q283 := eq_true q283
               try go_wp2_with (first|((with_reducible refine gate_callee (f := 59) rfl ?_);refine goesL_ (some 47) rfl rfl Try.func59 (by kernel_rfl) rfl #[.slice A283_0 (rd_L1 t277 x42_2).length c283_0] rfl (by (try simp only [List.map_toArray, List.map_cons, List.map_nil]);first|done|rfl|(simp only [List.length_drop, List.length_take];rfl)) ?_;(with_reducible refine (impl_lead.calls k2 _ _ (rd_L1 t277 x42_2) t284 _ ?side1 ?side2 A27.out).mono ?_);(case side1 => repeat (first|exact (by repeat (first|(with_reducible exact HR283_0.out)|(with_reducible refine Kd.C_alloc ?_ _)|(with_reducible refine Kd.C_drewN ?_ _)|(with_reducible refine Kd.C_drew ?_)|exact HR283_0.out))|(with_reducible refine Kd.C_alloc ?_ _)|(with_reducible refine Kd.C_drewN ?_ _)|(with_reducible refine Kd.C_drew ?_)));(case side2 => exact HC283_0.out);rintro e w' ⟨rfl, ⟨nd, rfl⟩⟩;refine ⟨_, rfl, ?_⟩;(try (rw [drewN_self wr];generalize hq_ : World.drewN wr _ = wr;have n0_ : Aside0 (Kd.V (Kd.int .i64) 3 wr w.heap.size (fun k_ => (P1_ k_ ∨ w.heap.size ≤ k_) ∧ some k_ ≠ (.slice (some ad283) t277.length co23 : Value).ownBlock ∧ some k_ ≠ (v281 : Value).ownBlock) (.slice A283_0 (rd_L1 t277 x42_2).length c283_0) (rd_L1 t277 x42_2)) := ⟨by rw [← hq_];exact (by (with_reducible repeat (first|apply Kd.V_alloc|apply Kd.V_drewN|apply Kd.V_drew));exact Kd.V_mono HL283_0.out (fun _ hk => by first|exact ⟨hk.1.1, ⟨hk.2, hk.1.2⟩⟩|((repeat' apply And.intro) <;> first|exact hk.1|exact hk.2|exact hk.1.1|exact hk.1.2|exact hk.2.1|exact hk.2.2|exact hk.1.1.1|exact hk.1.1.2|exact hk.1.2.1|exact hk.1.2.2|exact hk.2.1.1|exact hk.2.1.2|exact hk.2.2.1|exact hk.2.2.2|exact hk.2.2.2.1|exact hk.2.2.2.2|exact hk.1.2.2.1|exact hk.1.2.2.2|exact hk.1.2.2.2.1|exact hk.1.2.2.2.2)))⟩;have n1_ : Aside0 (Kd.V (Kd.int .i64) 3 wr w.heap.size (fun k_ => (P1_ k_ ∨ w.heap.size ≤ k_) ∧ some k_ ≠ (.slice (some ad283) t277.length co23 : Value).ownBlock ∧ some k_ ≠ (.slice (some ad283) t277.length co23 : Value).ownBlock ∧ some k_ ≠ (v281 : Value).ownBlock) (.slice A1 l1.length c1) l1) := ⟨by rw [← hq_];exact (by (with_reducible repeat (first|apply Kd.V_alloc|apply Kd.V_drewN|apply Kd.V_drew));exact Kd.V_mono HO_1.out (fun _ hk => by first|exact ⟨hk.1, ⟨hk.2.2.2, ⟨hk.2.1, hk.2.2.1⟩⟩⟩|((repeat' apply And.intro) <;> first|exact hk.1|exact hk.2|exact hk.1.1|exact hk.1.2|exact hk.2.1|exact hk.2.2|exact hk.1.1.1|exact hk.1.1.2|exact hk.1.2.1|exact hk.1.2.2|exact hk.2.1.1|exact hk.2.1.2|exact hk.2.2.1|exact hk.2.2.2|exact hk.2.2.2.1|exact hk.2.2.2.2|exact hk.1.2.2.1|exact hk.1.2.2.2|exact hk.1.2.2.2.1|exact hk.1.2.2.2.2)))⟩;have n2_ : Aside0 (Kd.N (Kd.slice 3 (Kd.int .i64)) 23 wr w.heap.size (fun k_ => (P1_ k_ ∨ w.heap.size ≤ k_) ∧ some k_ ≠ (v281 : Value).ownBlock) (.slice (some ad283) t277.length co23) t277) := ⟨by rw [← hq_];exact (by (with_reducible repeat (first|apply Kd.N_alloc|apply Kd.N_drewN|apply Kd.N_drew));exact HO_40.out)⟩;have n3_ : Aside0 (Kd.N (Kd.slice 3 (Kd.int .i64)) 23 wr w.heap.size (fun k_ => (P1_ k_ ∨ w.heap.size ≤ k_) ∧ some k_ ≠ (v281 : Value).ownBlock) (.slice (some ad283) t277.length co23) t277) := ⟨by rw [← hq_];exact (by (with_reducible repeat (first|apply Kd.N_alloc|apply Kd.N_drewN|apply Kd.N_drew));exact HO_6.out)⟩;have n4_ : Aside0 (Kd.R Kd.bool 4 wr w.heap.size (fun k_ => (w.heap.size ≤ k_)) v281 x8_2) := ⟨by rw [← hq_];exact (by (with_reducible repeat (first|apply Kd.R_alloc|apply Kd.R_drewN|apply Kd.R_drew));exact HO_8.out)⟩;have n5_ : Aside0 (Below w.heap.size w wr) := ⟨by rw [← hq_];exact (by repeat first|(with_reducible first|exact HB.out|apply below_alloc|apply pw_below_drewN|apply below_drew1)|exact HB.out)⟩;have n6_ : Aside0 (Kd.C (Kd.int .i64) wr A283_0 (rd_L1 t277 x42_2).length (rd_L1 t277 x42_2)) := ⟨by rw [← hq_];exact (by repeat (first|(with_reducible exact HR283_0.out)|(with_reducible refine Kd.C_alloc ?_ _)|(with_reducible refine Kd.C_drewN ?_ _)|(with_reducible refine Kd.C_drew ?_)|exact HR283_0.out))⟩;clear HL283_0 HO_1 HO_40 HO_6 HO_8 HB HR283_0 hq_;have HL283_0 := n0_;have HO_1 := n1_;have HO_40 := n2_;have HO_6 := n3_;have HO_8 := n4_;have HB := n5_;have HR283_0 := n6_;clear n0_ n1_ n2_ n3_ n4_ n5_ n6_));have p30 : 0 ≤ (t284 : Int) := of_decide_eq_true (by first|(with_reducible assumption)|assumption);have q30 : (t284 : Int) < ((x8_2.length : Int) : Int) := of_decide_eq_true (by first|(with_reducible assumption)|assumption);obtain ⟨go30, co30, eo30, gb30, gl30, cl30, HG30⟩ := Kd.R_form HO_8.out (by omega);(first|cases eo30|(injection eo30 with ea_ en_ ec_;(first|subst ea_|(injection ea_ with ea_;subst ea_));subst ec_;clear en_));have GB30 := Aside0.mk gb30;have GG30 := Aside0.mk HG30;clear gb30 gl30 HG30;obtain ⟨hx30_0, hf30_0⟩ := Kd.R_celln false HO_8.out (t284 : Int) p30 q30;replace p30 := eq_true p30;replace q30 := eq_true q30;obtain ⟨hy34_, hz34_⟩ := Kd.R_celln false HO_8.out (t284 : Int) (of_decide_eq_true (by first|(with_reducible assumption)|assumption)) (of_decide_eq_true (by first|(with_reducible assumption)|assumption));have HP34 := Kd.R_putg HO_8.out (t284 : Int) true)|((with_reducible refine gate_store (t := 4) (p := 50) rfl ?_);refine store_event (t := 4) (p := 50) (v := ?vo_w35) (w1 := (wr.setCell ⟨go30, (t284 : Int).toNat, none⟩ (.bool true))) ?hg ?ho ?hn ?hr ?_;(case ho => rfl);(case hg => rfl);(case hn => rfl);(case hr => first|(go_simp;done)|(go_simp;rfl));intro w35 hw;have hg : wr.grownBy w35 (some go30) := (by rw [hw];exact HP34.2);have hp_ : Kd.R Kd.bool 4 w35 w.heap.size (fun k_ => (w.heap.size ≤ k_)) (.slice (some ⟨go30, 0, none⟩) x8_2.length co30) y285 := (by rw [hw, Ny285.out];exact HP34.1);clear HP34;have n0_ := Aside0.mk (Kd.V_afterv (v := (.slice (some ⟨go30, 0, none⟩) x8_2.length co30)) (v1 := (.slice (some ⟨go30, 0, none⟩) x8_2.length co30)) (ok := (fun k_ => (P1_ k_ ∨ w.heap.size ≤ k_) ∧ some k_ ≠ (.slice (some ad283) t277.length co23 : Value).ownBlock ∧ some k_ ≠ (.slice (some ad283) t277.length co23 : Value).ownBlock)) (by (with_reducible repeat (first|apply Kd.V_alloc|apply Kd.V_drewN|apply Kd.V_drew));exact Kd.V_mono HO_1.out (fun _ hk => by first|exact ⟨⟨hk.1, ⟨hk.2.1, hk.2.2.2⟩⟩, hk.2.2.1⟩|((repeat' apply And.intro) <;> first|exact hk.1|exact hk.2|exact hk.1.1|exact hk.1.2|exact hk.2.1|exact hk.2.2|exact hk.1.1.1|exact hk.1.1.2|exact hk.1.2.1|exact hk.1.2.2|exact hk.2.1.1|exact hk.2.1.2|exact hk.2.2.1|exact hk.2.2.2|exact hk.2.2.2.1|exact hk.2.2.2.2|exact hk.1.2.2.1|exact hk.1.2.2.2|exact hk.1.2.2.2.1|exact hk.1.2.2.2.2))) hg (.inl rfl));have n1_ := Aside0.mk (Kd.N_afterv (v := (.slice (some ⟨go30, 0, none⟩) x8_2.length co30)) (v1 := (.slice (some ⟨go30, 0, none⟩) x8_2.length co30)) (ok := (fun k_ => (P1_ k_ ∨ w.heap.size ≤ k_))) (by (with_reducible repeat (first|apply Kd.N_alloc|apply Kd.N_drewN|apply Kd.N_drew));exact HO_6.out) hg (.inl rfl));have n2_ := Aside0.mk (hp_);have n3_ := Aside0.mk (Kd.N_afterv (v := (.slice (some ⟨go30, 0, none⟩) x8_2.length co30)) (v1 := (.slice (some ⟨go30, 0, none⟩) x8_2.length co30)) (ok := (fun k_ => (P1_ k_ ∨ w.heap.size ≤ k_))) (by (with_reducible repeat (first|apply Kd.N_alloc|apply Kd.N_drewN|apply Kd.N_drew));exact HO_40.out) hg (.inl rfl));have n4_ := Aside0.mk (Kd.V_afterv (v := (.slice (some ⟨go30, 0, none⟩) x8_2.length co30)) (v1 := (.slice (some ⟨go30, 0, none⟩) x8_2.length co30)) (ok := (fun k_ => (P1_ k_ ∨ w.heap.size ≤ k_) ∧ some k_ ≠ (.slice (some ad283) t277.length co23 : Value).ownBlock)) (by (with_reducible repeat (first|apply Kd.V_alloc|apply Kd.V_drewN|apply Kd.V_drew));exact Kd.V_mono HL283_0.out (fun _ hk => by first|exact ⟨⟨hk.1.1, hk.2⟩, hk.1.2⟩|((repeat' apply And.intro) <;> first|exact hk.1|exact hk.2|exact hk.1.1|exact hk.1.2|exact hk.2.1|exact hk.2.2|exact hk.1.1.1|exact hk.1.1.2|exact hk.1.2.1|exact hk.1.2.2|exact hk.2.1.1|exact hk.2.1.2|exact hk.2.2.1|exact hk.2.2.2|exact hk.2.2.2.1|exact hk.2.2.2.2|exact hk.1.2.2.1|exact hk.1.2.2.2|exact hk.1.2.2.2.1|exact hk.1.2.2.2.2))) hg (.inl rfl));have n5_ := Aside0.mk ((by rw [hw];exact below_set (HB.out) GB30.out : Below w.heap.size w w35));clear HO_1;clear HO_6;clear HO_8;clear HO_40;clear HL283_0;clear HB;have HO_1 := n0_;have HO_6 := n1_;have HO_8 := n2_;have HO_40 := n3_;have HL283_0 := n4_;have HB := n5_;clear n0_ n1_ n2_ n3_ n4_ n5_;clear hg hw hp_))
               have n0_ := Aside0.mk (Kd.V_drew HO_1.out)
               have n1_ := Aside0.mk (Kd.N_drew HO_6.out)
               have n2_ := Aside0.mk (Kd.R_drew HO_8.out)
               have n3_ := Aside0.mk (Kd.N_drew HO_40.out)
               have n4_ := Aside0.mk (Kd.V_drew HL283_0.out)
               have n5_ := Aside0.mk (below_drew1 HB.out)
               clear HO_1
               clear HO_6
               clear HO_8
               clear HO_40
               clear HL283_0
               clear HB
               have HO_1 := n0_
               have HO_6 := n1_
               have HO_8 := n2_
               have HO_40 := n3_
               have HL283_0 := n4_
               have HB := n5_
               clear n0_ n1_ n2_ n3_ n4_ n5_
               have p286 : 0 ≤ (t284 : Int) := of_decide_eq_true (by first|(with_reducible assumption)|assumption)
               have q286 : t284 < ((rd_L1 t277 x42_2).length : Int) := of_decide_eq_true (by first|(with_reducible assumption)|assumption)
               obtain ⟨ad286, e286, hx286_0⟩ := Kd.at_int (by repeat (first|(with_reducible exact (Kd.V_reads' HL283_0.out).2.2)|(with_reducible refine Kd.C_alloc ?_ _)|(with_reducible refine Kd.C_drewN ?_ _)|(with_reducible refine Kd.C_drew ?_)|exact (Kd.V_reads' HL283_0.out).2.2)) t284 p286 q286
               cases e286
               replace p286 := eq_true p286
               replace q286 := eq_true q286
               have p288 : 0 ≤ (t284 : Int) := of_decide_eq_true (by first|(with_reducible assumption)|assumption)
               have q288 : t284 < ((rd_L1 t277 x42_2).length : Int) := of_decide_eq_true (by first|(with_reducible assumption)|assumption)
               obtain ⟨ad288, e288, hx288_0⟩ := Kd.at_int (by repeat (first|(with_reducible exact (Kd.V_reads' HL283_0.out).2.2)|(with_reducible refine Kd.C_alloc ?_ _)|(with_reducible refine Kd.C_drewN ?_ _)|(with_reducible refine Kd.C_drew ?_)|exact (Kd.V_reads' HL283_0.out).2.2)) t284 p288 q288
               obtain rfl : ad286 = ad288 := (by injection e288)
               replace p288 := eq_true p288
               replace q288 := eq_true q288
               refine start_ (n := 14) (S := fun w' => w'.cell? (ad286.add (t284).toNat) = some (.int .i64 (rd (rd_L1 t277 x42_2) t284)) ∧ w'.cell? (ad286.add (t284).toNat) = some (.int .i64 (rd (rd_L1 t277 x42_2) t284))) (ds := []) #[false, false, false, false, false, false, false, false, false, false, false, false, false, false] (by kernel_rfl) rfl rfl ⟨hx286_0, hx288_0⟩ (fun hHeld => ?_);refine with_tabW impl_NullVector.tab12 impl_NullVector.bits12 (fun HT_ HW_ => ?_)
               generalize w35.drew = w36 at HO_1 HO_6 HO_8 HO_40 HL283_0 HB hx286_0 hx288_0 hHeld ⊢
               refine pure_ (i := 0) (N := some 51) (v := ?_) (a' := ?_) #[true, false, false, false, false, false, false, false, false, false, false, false, false, false] rfl rfl (any_of HT_.out (by kernel_rfl)) (fun _ _ _ h => h) (Or.inl ⟨by rfl, ?_⟩) ?_ ?_
               rotate_left
               ·intro w'
                go_simp
                with_reducible rfl
               rotate_left
               ·simp only [Act.put, List.setIfInBounds_toArray, List.set_cons_zero, List.set_cons_succ, i64_w, i32_w]
                rfl
               refine pure_ (i := 1) (N := some 52) (v := ?_) (a' := ?_) #[true, true, false, false, false, false, false, false, false, false, false, false, false, false] rfl rfl (any_of HT_.out (by kernel_rfl)) (fun _ _ _ h => h) (Or.inl ⟨by rfl, ?_⟩) ?_ ?_
               rotate_left
               ·intro w'
                go_simp
                with_reducible rfl
               rotate_left
               ·simp only [Act.put, List.setIfInBounds_toArray, List.set_cons_zero, List.set_cons_succ, i64_w, i32_w]
                rfl
               refine pure_ (i := 2) (N := some 53) (v := ?_) (a' := ?_) #[true, true, true, false, false, false, false, false, false, false, false, false, false, false] rfl rfl (any_of HT_.out (by kernel_rfl)) (fun _ _ _ h => h) (Or.inl ⟨by rfl, ?_⟩) ?_ ?_
               rotate_left
               ·intro w'
                go_simp
                with_reducible rfl
               rotate_left
               ·simp only [Act.put, List.setIfInBounds_toArray, List.set_cons_zero, List.set_cons_succ, i64_w, i32_w]
                rfl
               refine pure_ (i := 3) (N := some 54) (v := ?_) (a' := ?_) #[true, true, true, true, false, false, false, false, false, false, false, false, false, false] rfl rfl (any_of HT_.out (by kernel_rfl)) (fun _ _ _ h => h) (Or.inl ⟨by rfl, ?_⟩) ?_ ?_
               rotate_left
               ·intro w'
                go_simp
                with_reducible rfl
               rotate_left
               ·simp only [Act.put, List.setIfInBounds_toArray, List.set_cons_zero, List.set_cons_succ, i64_w, i32_w]
                rfl
               refine pure_ (i := 4) (N := some 55) (v := ?_) (a' := ?_) #[true, true, true, true, true, false, false, false, false, false, false, false, false, false] rfl rfl (any_of HT_.out (by kernel_rfl)) (fun _ _ _ h => h) (Or.inl ⟨by rfl, ?_⟩) ?_ ?_
               rotate_left
               ·intro w'
                go_simp
                with_reducible rfl
               rotate_left
               ·simp only [Act.put, List.setIfInBounds_toArray, List.set_cons_zero, List.set_cons_succ, i64_w, i32_w]
                rfl
               refine pure_ (i := 8) (N := some 59) (v := ?_) (a' := ?_) #[true, true, true, true, true, false, false, false, true, false, false, false, false, false] rfl rfl (any_of HT_.out (by kernel_rfl)) (fun _ _ _ h => h) (Or.inl ⟨by rfl, ?_⟩) ?_ ?_
               rotate_left
               ·intro w'
                go_simp
                with_reducible rfl
               rotate_left
               ·simp only [Act.put, List.setIfInBounds_toArray, List.set_cons_zero, List.set_cons_succ, i64_w, i32_w]
                rfl
               refine pure_ (i := 9) (N := some 60) (v := ?_) (a' := ?_) #[true, true, true, true, true, false, false, false, true, true, false, false, false, false] rfl rfl (any_of HT_.out (by kernel_rfl)) (fun _ _ _ h => h) (Or.inl ⟨by rfl, ?_⟩) ?_ ?_
               rotate_left
               ·intro w'
                go_simp
                with_reducible rfl
               rotate_left
               ·simp only [Act.put, List.setIfInBounds_toArray, List.set_cons_zero, List.set_cons_succ, i64_w, i32_w]
                rfl
               refine pure_ (i := 10) (N := some 61) (v := ?_) (a' := ?_) #[true, true, true, true, true, false, false, false, true, true, true, false, false, false] rfl rfl (any_of HT_.out (by kernel_rfl)) (fun _ _ _ h => h) (Or.inl ⟨by rfl, ?_⟩) ?_ ?_
               rotate_left
               ·intro w'
                go_simp
                with_reducible rfl
               rotate_left
               ·simp only [Act.put, List.setIfInBounds_toArray, List.set_cons_zero, List.set_cons_succ, i64_w, i32_w]
                rfl
               refine take_ (i := 5) (N := some 56) (v := ?_) (a' := ?_) #[true, true, true, true, true, true, false, false, true, true, true, false, false, false] rfl rfl (take_ofW HT_.out HW_.out (by kernel_rfl)) (fun _ _ _ h => h) (Or.inl ⟨by rfl, ?_⟩) hHeld ?_ ?_
               rotate_left
               ·rintro w' ⟨s0, s1⟩
                go_simp
                with_reducible rfl
               rotate_left
               ·simp only [Act.put, List.setIfInBounds_toArray, List.set_cons_zero, List.set_cons_succ, i64_w, i32_w]
                rfl
               refine take_ (i := 11) (N := some 62) (v := ?_) (a' := ?_) #[true, true, true, true, true, true, false, false, true, true, true, true, false, false] rfl rfl (take_ofW HT_.out HW_.out (by kernel_rfl)) (fun _ _ _ h => h) (Or.inl ⟨by rfl, ?_⟩) hHeld ?_ ?_
               rotate_left
               ·rintro w' ⟨s0, s1⟩
                go_simp
                with_reducible rfl
               rotate_left
               ·simp only [Act.put, List.setIfInBounds_toArray, List.set_cons_zero, List.set_cons_succ, i64_w, i32_w]
                rfl
               refine one_ (i := 6) (N := some 57) #[true, true, true, true, true, true, true, false, true, true, true, true, false, false] rfl rfl (one_of HT_.out (by kernel_rfl)) (by decide) (fun K hK => ?_)
               refine goes_ Try.func60 (by kernel_rfl) rfl #[.int .i64 x7_2, .int .i64 (rd (rd_L1 t277 x42_2) t284)] (by rfl) rfl rfl (by (try simp only [List.map_toArray, List.map_cons, List.map_nil]);first|done|rfl|(simp only [List.length_drop, List.length_take];rfl)) ?_
               with_reducible refine (impl_gcd.calls k2 x7_2 (rd (rd_L1 t277 x42_2) t284) t287 _ A32.out).mono ?_
               rintro e w' ⟨rfl, ⟨nd, rfl⟩⟩
               refine ⟨_, rfl, ?_⟩
               refine hK.out _ _ ⟨hHeld.1, hHeld.2⟩ (fun hHeld => ?_)
               clear hK K
               refine norm_ (a' := ?_) ?_ ?_
               rotate_left
               ·show Act.put _ (some 57) _ = _
                simp only [Act.put, List.setIfInBounds_toArray, List.set_cons_zero, List.set_cons_succ, i64_w, i32_w]
                rfl
               refine pure_ (i := 7) (N := some 58) (v := ?_) (a' := ?_) #[true, true, true, true, true, true, true, true, true, true, true, true, false, false] rfl rfl (any_of HT_.out (by kernel_rfl)) (fun _ _ _ h => h) (Or.inl ⟨by rfl, ?_⟩) ?_ ?_
               rotate_left
               ·intro w'
                go_simp
                with_reducible rfl
               rotate_left
               ·simp only [Act.put, List.setIfInBounds_toArray, List.set_cons_zero, List.set_cons_succ, i64_w, i32_w]
                rfl
               refine pure_ (i := 12) (N := some 63) (v := ?_) (a' := ?_) #[true, true, true, true, true, true, true, true, true, true, true, true, true, false] rfl rfl (any_of HT_.out (by kernel_rfl)) (fun _ _ _ h => h) (Or.inl ⟨by rfl, ?_⟩) ?_ ?_
               rotate_left
               ·intro w'
                go_simp
                with_reducible rfl
               rotate_left
               ·simp only [Act.put, List.setIfInBounds_toArray, List.set_cons_zero, List.set_cons_succ, i64_w, i32_w]
                rfl
               refine pure_ (i := 13) (N := some 7) (v := ?_) (a' := ?_) #[true, true, true, true, true, true, true, true, true, true, true, true, true, true] rfl rfl (any_of HT_.out (by kernel_rfl)) (fun _ _ _ h => h) (Or.inl ⟨by rfl, ?_⟩) ?_ ?_
               rotate_left
               ·intro w'
                go_simp
                with_reducible rfl
               rotate_left
               ·simp only [Act.put, List.setIfInBounds_toArray, List.set_cons_zero, List.set_cons_succ, i64_w, i32_w]
                rfl
               refine done_ (done_of HT_.out (by kernel_rfl)) ?_
               try go_wp2
               go_roundg k2
               case measure => have := HJ2.out;have := HK2.out;omega
               case rel => exact ⟨(wrap64 ((wrap64 (Int.tdiv x7_2 t287)) * (rd (rd_L1 t277 x42_2) t284))), (y285), (wrap64 (x42_2 + 1)), (by first|rfl|(simp;done)|(simp [*];done)), (by first|rfl|(simp;done)|(simp [*];done)), H', ⟨by have := HJ2.out;have := HK2.out;omega⟩, ⟨by (with_reducible repeat (first|apply Kd.V_alloc|apply Kd.V_drewN|apply Kd.V_drew));exact Kd.V_mono HO_1.out (fun _ hk => by first|exact ⟨hk.1.1, ⟨hk.1.2.1, ⟨hk.2, hk.1.2.2⟩⟩⟩|((repeat' apply And.intro) <;> first|exact hk.1|exact hk.2|exact hk.1.1|exact hk.1.2|exact hk.2.1|exact hk.2.2|exact hk.1.1.1|exact hk.1.1.2|exact hk.1.2.1|exact hk.1.2.2|exact hk.2.1.1|exact hk.2.1.2|exact hk.2.2.1|exact hk.2.2.2|exact hk.2.2.2.1|exact hk.2.2.2.2|exact hk.1.2.2.1|exact hk.1.2.2.2|exact hk.1.2.2.2.1|exact hk.1.2.2.2.2))⟩, ⟨by (with_reducible repeat (first|apply Kd.N_alloc|apply Kd.N_drewN|apply Kd.N_drew));exact HO_6.out⟩, ⟨by (with_reducible repeat (first|apply Kd.R_alloc|apply Kd.R_drewN|apply Kd.R_drew));exact HO_8.out⟩, ⟨by (with_reducible repeat (first|apply Kd.N_alloc|apply Kd.N_drewN|apply Kd.N_drew));exact HO_40.out⟩, ⟨by repeat (first|(with_reducible first|exact HB.out|apply below_alloc|apply pw_below_drewN|apply below_drew1)|exact HB.out)⟩⟩
             ·rw [if_neg c31] at H
              exact absurd H (by simp)
            ·rw [if_neg c29] at H
             exact absurd H (by simp)
           ·rw [if_neg c28] at H
            exact absurd H (by simp)
          ·rw [if_neg c26] at H
           exact absurd H (by simp)
         ·rw [if_neg c25] at H
          exact absurd H (by simp)
        ·rw [if_neg c24] at H
         have c24b0 : decide (x42_2 < (t277.length : Int)) = false := decide_eq_false c24
         clear c24
         have H' := Aside0.mk H
         clear H
         go_wp2
         go_loopg [66] k2 (fun kq v66 w' => ∃ (x1_3 : List Int) (x66_3 : Int), v66 = .int .i64 x66_3 ∧ Aside0 (impl_NullVector.l1 kq x1_3 (l1.length : Int) t277 x7_2 x8_2 (l1.length : Int) x66_3 = some r) ∧ Aside0 (kq ≤ k2) ∧ Aside0 (Kd.V (Kd.int .i64) 3 w' w.heap.size (fun k_ => (P1_ k_ ∨ w.heap.size ≤ k_) ∧ some k_ ≠ ((.slice Ao23 t277.length co23) : Value).ownBlock ∧ some k_ ≠ (v281 : Value).ownBlock) (.slice A1 l1.length c1) x1_3) ∧ Aside0 (Kd.N (Kd.slice 3 (Kd.int .i64)) 23 w' w.heap.size (fun k_ => (P1_ k_ ∨ w.heap.size ≤ k_) ∧ some k_ ≠ (v281 : Value).ownBlock) (.slice Ao23 t277.length co23) t277) ∧ Aside0 (Kd.R Kd.bool 4 w' w.heap.size (fun k_ => (w.heap.size ≤ k_)) v281 x8_2) ∧ Aside0 (Below w.heap.size w w'))
         case atStart => exact ⟨(l1), (0), (by first|rfl|(simp;done)|(simp [*];done)), H', ⟨Nat.le_refl _⟩, ⟨by (with_reducible repeat (first|apply Kd.V_alloc|apply Kd.V_drewN|apply Kd.V_drew));exact Kd.V_mono HO_1.out (fun _ hk => by first|exact ⟨hk.1, ⟨hk.2.1, hk.2.2.1⟩⟩|((repeat' apply And.intro) <;> first|exact hk.1|exact hk.2|exact hk.1.1|exact hk.1.2|exact hk.2.1|exact hk.2.2|exact hk.1.1.1|exact hk.1.1.2|exact hk.1.2.1|exact hk.1.2.2|exact hk.2.1.1|exact hk.2.1.2|exact hk.2.2.1|exact hk.2.2.2|exact hk.2.2.2.1|exact hk.2.2.2.2|exact hk.1.2.2.1|exact hk.1.2.2.2|exact hk.1.2.2.2.1|exact hk.1.2.2.2.2))⟩, ⟨by (with_reducible repeat (first|apply Kd.N_alloc|apply Kd.N_drewN|apply Kd.N_drew));exact HO_6.out⟩, ⟨by (with_reducible repeat (first|apply Kd.R_alloc|apply Kd.R_drewN|apply Kd.R_drew));exact HO_8.out⟩, ⟨by repeat (first|(with_reducible first|exact HB.out|apply below_alloc|apply pw_below_drewN|apply below_drew1)|exact HB.out)⟩⟩
         case round =>
          clear H'
          try clear c1
          try clear c2
          try clear p2
          try clear q2
          try clear hx2
          try clear c3
          try clear p3
          try clear q3
          try clear hx3
          try clear hf3
          try clear c4
          try clear c5
          try clear c6
          try clear p6
          try clear c7
          try clear c16
          try clear c18
          try clear c18b0
          try clear c18b1
          try clear c19
          try clear c19b0
          try clear c19b1
          try clear c24
          try clear c24b0
          try clear c25
          try clear c25b0
          try clear c26
          try clear c26b0
          try clear c28
          try clear c28b0
          try clear p28
          try clear q28
          try clear hx28
          try clear c29
          try clear c29b0
          try clear p30
          try clear q30
          try clear hx30
          try clear hf30
          try clear c31
          try clear c31b0
          try clear c33
          try clear c33b0
          try clear c33b1
          try clear hx283_0
          try clear hx286_0
          try clear hx288_0
          try clear hx30_0
          try clear p2
          try clear p283
          try clear p286
          try clear p288
          try clear p30
          try clear q283
          try clear q286
          try clear q288
          try clear q30
          obtain ⟨x1_3, x66_3, rfl, HA, HK3, HO_1, HO_6, HO_8, HB⟩ := hrel
          have hl1_3 := (Kd.V_reads' HO_1.out).1
          rw [hl1_3] at HO_1
          (try simp only [hl1_3])
          (try simp only [hl1_3] at HO_6)
          (try simp only [hl1_3] at HO_8)
          cases gk with
         |zero => exact absurd HA.out (by simp [impl_NullVector.l1])
         |succ k3 =>
           have H := HA.out
           clear HA
           simp only [impl_NullVector.l1] at H
           by_cases c37 : x66_3 < (l1.length : Int)
           ·rw [if_pos c37] at H
            have c37b0 : decide (x66_3 < (l1.length : Int)) = true := decide_eq_true c37
            have c37b1 : decide (x66_3 < (x1_3.length : Int)) = true := by rw [show (x1_3.length : Int) = (l1.length : Int) by omega];exact c37b0
            clear c37
            by_cases c38 : 0 ≤ x66_3
            ·rw [if_pos c38] at H
             have c38b0 : decide (0 ≤ x66_3) = true := decide_eq_true c38
             clear c38
             by_cases c39 : x66_3 < (x8_2.length : Int)
             ·rw [if_pos c39] at H
              have c39b0 : decide (x66_3 < (x8_2.length : Int)) = true := decide_eq_true c39
              clear c39
              obtain ⟨bq40, hbq40⟩ : ∃ b_ : Bool, b_ = (rdOf false x8_2 x66_3) := ⟨_, rfl⟩
              replace H : (if bq40 = true then (impl_NullVector.l1 k3 x1_3 (l1.length : Int) t277 x7_2 x8_2 (l1.length : Int) (wrap64 (x66_3 + 1))) else (if 0 ≤ (l1.length : Int) then (if ((l1.length : Int) : Int).toNat ≤ 35184372088832 then ((some (List.replicate ((l1.length : Int) : Int).toNat 0 : List Int)).bind fun y290 => (if x66_3 < (y290.length : Int) then (impl_NullVector.l2 k3 x1_3 (l1.length : Int) t277 x7_2 x8_2 x66_3 (y290.set (x66_3 : Int).toNat x7_2) (l1.length : Int) x66_3 t277 (t277.length : Int) 0) else (none))) else (none)) else (none))) = some r := by rw [← hbq40] at H;exact H
              have Nbq40 := Aside0.mk hbq40
              clear hbq40
              by_cases c41 : bq40 = true
              ·subst c41
               have H1 : (impl_NullVector.l1 k3 x1_3 (l1.length : Int) t277 x7_2 x8_2 (l1.length : Int) (wrap64 (x66_3 + 1))) = some r := by rw [if_pos rfl] at H;exact H
               clear H
               have H := H1
               clear H1
               have H' := Aside0.mk H
               clear H
               obtain ⟨Ao42, co42, eo42⟩ := Kd.R_slice HO_8.out
               subst eo42
               have p289 : 0 ≤ (x66_3 : Int) := of_decide_eq_true (by first|(with_reducible assumption)|assumption)
               have q289 : x66_3 < (x8_2.length : Int) := of_decide_eq_true (by first|(with_reducible assumption)|assumption)
               obtain ⟨ad289, e289, hx289_0⟩ := Kd.at_bool (Kd.R_reads' HO_8.out).2.2 x66_3 p289 q289
               (try rw [← Nbq40.out] at hx289_0)
               cases e289
               replace p289 := eq_true p289
               replace q289 := eq_true q289
               go_wp2
               (try simp only [← hl1_3])
               go_roundg k3
               case measure => have := HJ2.out;have := HK2.out;have := HK3.out;omega
               case rel => exact ⟨(x1_3), (wrap64 (x66_3 + 1)), (by first|rfl|(simp;done)|(simp [*];done)), H', ⟨by have := HJ2.out;have := HK2.out;have := HK3.out;omega⟩, ⟨by (try simp only [hl1_3]);(with_reducible repeat (first|apply Kd.V_alloc|apply Kd.V_drewN|apply Kd.V_drew));exact HO_1.out⟩, ⟨by (try simp only [hl1_3]);(with_reducible repeat (first|apply Kd.N_alloc|apply Kd.N_drewN|apply Kd.N_drew));exact HO_6.out⟩, ⟨by (try simp only [hl1_3]);(with_reducible repeat (first|apply Kd.R_alloc|apply Kd.R_drewN|apply Kd.R_drew));exact HO_8.out⟩, ⟨by repeat (first|(with_reducible first|exact HB.out|apply below_alloc|apply pw_below_drewN|apply below_drew1)|exact HB.out)⟩⟩
              ·replace c41 := Bool.eq_false_iff.mpr c41
               subst c41
               have H1 : (if 0 ≤ (l1.length : Int) then (if ((l1.length : Int) : Int).toNat ≤ 35184372088832 then ((some (List.replicate ((l1.length : Int) : Int).toNat 0 : List Int)).bind fun y290 => (if x66_3 < (y290.length : Int) then (impl_NullVector.l2 k3 x1_3 (l1.length : Int) t277 x7_2 x8_2 x66_3 (y290.set (x66_3 : Int).toNat x7_2) (l1.length : Int) x66_3 t277 (t277.length : Int) 0) else (none))) else (none)) else (none)) = some r := by rw [if_neg (show ¬ (false = true) by decide)] at H;exact H
               clear H
               have H := H1
               clear H1
               by_cases c43 : 0 ≤ (l1.length : Int)
               ·rw [if_pos c43] at H
                have c43b0 := eq_true c43
                have c43b1 : decide (0 ≤ (l1.length : Int)) = true := decide_eq_true c43
                clear c43
                by_cases c44 : ((l1.length : Int) : Int).toNat ≤ 35184372088832
                ·rw [if_pos c44] at H
                 have c44b0 := eq_true c44
                 have c44b1 : decide (((l1.length : Int) : Int).toNat ≤ 35184372088832) = true := decide_eq_true c44
                 clear c44
                 obtain ⟨y290, hy290⟩ : ∃ y_ : List Int, y_ = (List.replicate ((l1.length : Int) : Int).toNat 0) := ⟨_, rfl⟩
                 replace H : (if x66_3 < (y290.length : Int) then (impl_NullVector.l2 k3 x1_3 (l1.length : Int) t277 x7_2 x8_2 x66_3 (y290.set (x66_3 : Int).toNat x7_2) (l1.length : Int) x66_3 t277 (t277.length : Int) 0) else (none)) = some r := by first|(rw [hy290];with_reducible exact H)|(have H2_ := (Option.bind_some _ _).symm.trans H;rw [hy290];with_reducible exact H2_)|(have H2_ := (Option.bind_some _ _).symm.trans H;with_reducible exact H2_)|with_reducible exact H|(rw [hy290];exact H)|exact H
                 have Ny290 := Aside0.mk hy290
                 clear hy290
                 by_cases c45 : x66_3 < (y290.length : Int)
                 ·rw [if_pos c45] at H
                  have c45b0 : decide (x66_3 < (y290.length : Int)) = true := decide_eq_true c45
                  clear c45
                  obtain ⟨y293, hy293⟩ : ∃ y_ : List Int, y_ = (y290.set (x66_3 : Int).toNat x7_2) := ⟨_, rfl⟩
                  replace H : (impl_NullVector.l2 k3 x1_3 (l1.length : Int) t277 x7_2 x8_2 x66_3 y293 (l1.length : Int) x66_3 t277 (t277.length : Int) 0) = some r := by first|(rw [hy293];with_reducible exact H)|(have H2_ := (Option.bind_some _ _).symm.trans H;rw [hy293];with_reducible exact H2_)|(have H2_ := (Option.bind_some _ _).symm.trans H;with_reducible exact H2_)|with_reducible exact H|(rw [hy293];exact H)|exact H
                  have Ny293 := Aside0.mk hy293
                  clear hy293
                  have H' := Aside0.mk H
                  clear H
                  obtain ⟨Ao47, co47, eo47⟩ := Kd.R_slice HO_8.out
                  subst eo47
                  have p289 : 0 ≤ (x66_3 : Int) := of_decide_eq_true (by first|(with_reducible assumption)|assumption)
                  have q289 : x66_3 < (x8_2.length : Int) := of_decide_eq_true (by first|(with_reducible assumption)|assumption)
                  obtain ⟨ad289, e289, hx289_0⟩ := Kd.at_bool (Kd.R_reads' HO_8.out).2.2 x66_3 p289 q289
                  (try rw [← Nbq40.out] at hx289_0)
                  cases e289
                  replace p289 := eq_true p289
                  replace q289 := eq_true q289
                  (try simp only [← hl1_3])
                  go_wp2_with (first|((with_reducible refine gate_dst (N := 74) rfl ?_);(try (refine gate_guard (by rfl) ?_;dsimp only));refine Kd.R_make (Kd.int .i64) _ 3 rfl (N := 74) rfl 23 _ _ rfl (l1.length : Int) rfl rfl Try.underlying23 (.int .i64 0) 8 info3 rfl (by decide) (by omega) 0 (ok := fun _ => True) (okp := fun _ => True) rfl (fun _ hk => hk) trivial (of_decide_eq_true (by first|(with_reducible assumption)|assumption)) (Nat.le_trans (Nat.mul_le_mul_right _ (of_decide_eq_true (by first|(with_reducible assumption)|assumption) : (l1.length : Int).toNat ≤ 35184372088832)) (by omega)) (Below.refl _ _) (Nat.le_refl _) ?_;intro v291 w48 ho49 hb hg_ hnew_;clear hg_ hnew_;(first|rw [← Ny290.out] at ho49|(simp only [Int.reduceToNat] at ho49;rw [← Ny290.out] at ho49));have n0_ := Aside0.mk (Kd.V_elder' (by (with_reducible repeat (first|apply Kd.V_alloc|apply Kd.V_drewN|apply Kd.V_drew));exact HO_1.out) (Kd.R_base ho49) hb);have n1_ := Aside0.mk (Kd.N_elder' (by (with_reducible repeat (first|apply Kd.N_alloc|apply Kd.N_drewN|apply Kd.N_drew));exact HO_6.out) (Kd.R_base ho49) hb);have n2_ := Aside0.mk (Kd.R_below (by (with_reducible repeat (first|apply Kd.R_alloc|apply Kd.R_drewN|apply Kd.R_drew));exact HO_8.out) hb);have n3_ := Aside0.mk (Kd.R_lower (Kd.R_newM (M := fun k_ => (w.heap.size ≤ k_)) ho49 (below_size (by repeat first|(with_reducible first|exact HB.out|apply below_alloc|apply pw_below_drewN|apply below_drew1)|exact HB.out)) (fun k_ h_ => h_)) (below_size (by repeat first|(with_reducible first|exact HB.out|apply below_alloc|apply pw_below_drewN|apply below_drew1)|exact HB.out)));have n4_ := Aside0.mk (below_step (by repeat first|(with_reducible first|exact HB.out|apply below_alloc|apply pw_below_drewN|apply below_drew1)|exact HB.out) hb);clear HO_1;clear HO_6;clear HO_8;clear HB;have HO_1 := n0_;have HO_6 := n1_;have HO_8 := n2_;have HO292 := n3_;have HB := n4_;clear n0_ n1_ n2_ n3_ n4_;clear hb ho49;have p46 : 0 ≤ (x66_3 : Int) := of_decide_eq_true (by first|(with_reducible assumption)|assumption);have q46 : (x66_3 : Int) < ((y290.length : Int) : Int) := of_decide_eq_true (by first|(with_reducible assumption)|assumption);obtain ⟨go46, co46, eo46, gb46, gl46, cl46, HG46⟩ := Kd.R_form HO292.out (by omega);(first|cases eo46|(injection eo46 with ea_ en_ ec_;(first|subst ea_|(injection ea_ with ea_;subst ea_));subst ec_;clear en_));have GB46 := Aside0.mk gb46;have GG46 := Aside0.mk HG46;clear gb46 gl46 HG46;obtain ⟨hx46_0, hf46_0⟩ := Kd.R_celln 0 HO292.out (x66_3 : Int) p46 q46;replace p46 := eq_true p46;replace q46 := eq_true q46;have n_ := Aside0.mk (Kd.R_mono (ok' := (fun k_ => (w.heap.size ≤ k_))) HO292.out (fun k_ hk => hk.1));clear HO292;have HO292 := n_;clear n_;obtain ⟨hy50_, hz50_⟩ := Kd.R_celln 0 HO292.out (x66_3 : Int) (of_decide_eq_true (by first|(with_reducible assumption)|assumption)) (of_decide_eq_true (by first|(with_reducible assumption)|assumption));have HP50 := Kd.R_putg HO292.out (x66_3 : Int) x7_2)|((with_reducible refine gate_store (t := 3) (p := 78) rfl ?_);refine store_event (t := 3) (p := 78) (v := ?vo_w51) (w1 := (w48.setCell ⟨go46, (x66_3 : Int).toNat, none⟩ (.int .i64 x7_2))) ?hg ?ho ?hn ?hr ?_;(case ho => rfl);(case hg => rfl);(case hn => rfl);(case hr => first|(go_simp;done)|(go_simp;rfl));intro w51 hw;have hg : w48.grownBy w51 (some go46) := (by rw [hw];exact HP50.2);have hp_ : Kd.R (Kd.int .i64) 3 w51 w.heap.size (fun k_ => (w.heap.size ≤ k_)) (.slice (some ⟨go46, 0, none⟩) y290.length co46) y293 := (by rw [hw, Ny293.out];exact HP50.1);clear HP50;have n0_ := Aside0.mk (Kd.V_afterv (v := (.slice (some ⟨go46, 0, none⟩) y290.length co46)) (v1 := (.slice (some ⟨go46, 0, none⟩) y290.length co46)) (ok := (fun k_ => (P1_ k_ ∨ w.heap.size ≤ k_) ∧ some k_ ≠ (.slice Ao23 t277.length co23 : Value).ownBlock ∧ some k_ ≠ (.slice (some ad289) x8_2.length co47 : Value).ownBlock)) (by (with_reducible repeat (first|apply Kd.V_alloc|apply Kd.V_drewN|apply Kd.V_drew));exact HO_1.out) hg (.inl rfl));have n1_ := Aside0.mk (Kd.N_afterv (v := (.slice (some ⟨go46, 0, none⟩) y290.length co46)) (v1 := (.slice (some ⟨go46, 0, none⟩) y290.length co46)) (ok := (fun k_ => (P1_ k_ ∨ w.heap.size ≤ k_) ∧ some k_ ≠ (.slice (some ad289) x8_2.length co47 : Value).ownBlock)) (by (with_reducible repeat (first|apply Kd.N_alloc|apply Kd.N_drewN|apply Kd.N_drew));exact HO_6.out) hg (.inl rfl));have n2_ := Aside0.mk (Kd.R_over' (v := (.slice (some ⟨go46, 0, none⟩) y290.length co46)) (by (with_reducible repeat (first|apply Kd.R_alloc|apply Kd.R_drewN|apply Kd.R_drew));exact HO_8.out) (Kd.R_typed HO292.out) (by decide) hg);have n3_ := Aside0.mk (hp_);have n4_ := Aside0.mk ((by rw [hw];exact below_set (HB.out) GB46.out : Below w.heap.size w w51));clear HO_1;clear HO_6;clear HO_8;clear HO292;clear HB;have HO_1 := n0_;have HO_6 := n1_;have HO_8 := n2_;have HO292 := n3_;have HB := n4_;clear n0_ n1_ n2_ n3_ n4_;clear hg hw hp_))
                  (try simp only [hl1_3])
                  go_loopg [81] k3 (fun kq v81 w' => ∃ (x13_4 : List Int) (x81_4 : Int), v81 = .int .i64 x81_4 ∧ Aside0 (impl_NullVector.l2 kq x1_3 (l1.length : Int) t277 x7_2 x8_2 x66_3 x13_4 (l1.length : Int) x66_3 t277 (t277.length : Int) x81_4 = some r) ∧ Aside0 (kq ≤ k3) ∧ Aside0 (Kd.V (Kd.int .i64) 3 w' w.heap.size (fun k_ => (P1_ k_ ∨ w.heap.size ≤ k_) ∧ some k_ ≠ ((.slice Ao23 t277.length co23) : Value).ownBlock ∧ some k_ ≠ ((.slice (some ad289) x8_2.length co47) : Value).ownBlock ∧ some k_ ≠ ((.slice (some ⟨go46, 0, none⟩) y290.length co46) : Value).ownBlock ∧ some k_ ≠ ((.slice Ao23 t277.length co23) : Value).ownBlock) (.slice A1 x1_3.length c1) x1_3) ∧ Aside0 (Kd.N (Kd.slice 3 (Kd.int .i64)) 23 w' w.heap.size (fun k_ => (P1_ k_ ∨ w.heap.size ≤ k_) ∧ some k_ ≠ ((.slice (some ad289) x8_2.length co47) : Value).ownBlock ∧ some k_ ≠ ((.slice (some ⟨go46, 0, none⟩) y290.length co46) : Value).ownBlock) (.slice Ao23 t277.length co23) t277) ∧ Aside0 (Kd.R Kd.bool 4 w' w.heap.size (fun k_ => (w.heap.size ≤ k_)) (.slice (some ad289) x8_2.length co47) x8_2) ∧ Aside0 (Kd.R (Kd.int .i64) 3 w' w.heap.size (fun k_ => (w.heap.size ≤ k_)) (.slice (some ⟨go46, 0, none⟩) y290.length co46) x13_4) ∧ Aside0 (Kd.N (Kd.slice 3 (Kd.int .i64)) 23 w' w.heap.size (fun k_ => (P1_ k_ ∨ w.heap.size ≤ k_) ∧ some k_ ≠ ((.slice (some ad289) x8_2.length co47) : Value).ownBlock ∧ some k_ ≠ ((.slice (some ⟨go46, 0, none⟩) y290.length co46) : Value).ownBlock) (.slice Ao23 t277.length co23) t277) ∧ Aside0 (Below w.heap.size w w'))
                  case atStart => exact ⟨(y293), (0), (by first|rfl|(simp;done)|(simp [*];done)), H', ⟨Nat.le_refl _⟩, ⟨by (try simp only [hl1_3]);(with_reducible repeat (first|apply Kd.V_alloc|apply Kd.V_drewN|apply Kd.V_drew));exact Kd.V_mono HO_1.out (fun _ hk => by first|exact ⟨hk.1.1, ⟨hk.1.2.1, ⟨hk.1.2.2, ⟨hk.2, hk.1.2.1⟩⟩⟩⟩|((repeat' apply And.intro) <;> first|exact hk.1|exact hk.2|exact hk.1.1|exact hk.1.2|exact hk.2.1|exact hk.2.2|exact hk.1.1.1|exact hk.1.1.2|exact hk.1.2.1|exact hk.1.2.2|exact hk.2.1.1|exact hk.2.1.2|exact hk.2.2.1|exact hk.2.2.2|exact hk.2.2.2.1|exact hk.2.2.2.2|exact hk.1.2.2.1|exact hk.1.2.2.2|exact hk.1.2.2.2.1|exact hk.1.2.2.2.2))⟩, ⟨by (try simp only [hl1_3]);(with_reducible repeat (first|apply Kd.N_alloc|apply Kd.N_drewN|apply Kd.N_drew));exact Kd.N_mono HO_6.out (fun _ hk => by first|exact ⟨hk.1.1, ⟨hk.1.2, hk.2⟩⟩|((repeat' apply And.intro) <;> first|exact hk.1|exact hk.2|exact hk.1.1|exact hk.1.2|exact hk.2.1|exact hk.2.2|exact hk.1.1.1|exact hk.1.1.2|exact hk.1.2.1|exact hk.1.2.2|exact hk.2.1.1|exact hk.2.1.2|exact hk.2.2.1|exact hk.2.2.2|exact hk.2.2.2.1|exact hk.2.2.2.2|exact hk.1.2.2.1|exact hk.1.2.2.2|exact hk.1.2.2.2.1|exact hk.1.2.2.2.2))⟩, ⟨by (try simp only [hl1_3]);(with_reducible repeat (first|apply Kd.R_alloc|apply Kd.R_drewN|apply Kd.R_drew));exact HO_8.out⟩, ⟨by (try simp only [hl1_3]);(with_reducible repeat (first|apply Kd.R_alloc|apply Kd.R_drewN|apply Kd.R_drew));exact HO292.out⟩, ⟨by (try simp only [hl1_3]);(with_reducible repeat (first|apply Kd.N_alloc|apply Kd.N_drewN|apply Kd.N_drew));exact Kd.N_mono HO_6.out (fun _ hk => by first|exact ⟨hk.1.1, ⟨hk.1.2, hk.2⟩⟩|((repeat' apply And.intro) <;> first|exact hk.1|exact hk.2|exact hk.1.1|exact hk.1.2|exact hk.2.1|exact hk.2.2|exact hk.1.1.1|exact hk.1.1.2|exact hk.1.2.1|exact hk.1.2.2|exact hk.2.1.1|exact hk.2.1.2|exact hk.2.2.1|exact hk.2.2.2|exact hk.2.2.2.1|exact hk.2.2.2.2|exact hk.1.2.2.1|exact hk.1.2.2.2|exact hk.1.2.2.2.1|exact hk.1.2.2.2.2))⟩, ⟨by repeat (first|(with_reducible first|exact HB.out|apply below_alloc|apply pw_below_drewN|apply below_drew1)|exact HB.out)⟩⟩
                  case round =>
                   clear H'
                   try clear c1
                   try clear c2
                   try clear p2
                   try clear q2
                   try clear hx2
                   try clear c3
                   try clear p3
                   try clear q3
                   try clear hx3
                   try clear hf3
                   try clear c4
                   try clear p4
                   try clear q4
                   try clear hx4
                   try clear hf4
                   try clear c5
                   try clear c6
                   try clear p6
                   try clear c7
                   try clear c16
                   try clear c18
                   try clear c18b0
                   try clear c18b1
                   try clear c19
                   try clear c19b0
                   try clear c19b1
                   try clear c24
                   try clear c24b0
                   try clear c25
                   try clear c25b0
                   try clear c26
                   try clear c26b0
                   try clear c28
                   try clear c28b0
                   try clear p28
                   try clear q28
                   try clear hx28
                   try clear c29
                   try clear c29b0
                   try clear p30
                   try clear q30
                   try clear hx30
                   try clear hf30
                   try clear c31
                   try clear c31b0
                   try clear c33
                   try clear c33b0
                   try clear c33b1
                   try clear c37
                   try clear c37b0
                   try clear c38
                   try clear c38b0
                   try clear c39
                   try clear c39b0
                   try clear c40
                   try clear q40
                   try clear c41
                   try clear c42
                   try clear c43
                   try clear c43b0
                   try clear c43b1
                   try clear c44
                   try clear c44b0
                   try clear c44b1
                   try clear c45
                   try clear c45b0
                   try clear p46
                   try clear q46
                   try clear hx46
                   try clear hf46
                   try clear hx283_0
                   try clear hx286_0
                   try clear hx288_0
                   try clear hx289_0
                   try clear hx30_0
                   try clear hx46_0
                   try clear p2
                   try clear p28
                   try clear p283
                   try clear p286
                   try clear p288
                   try clear p289
                   try clear p3
                   try clear p30
                   try clear p46
                   try clear p6
                   try clear q2
                   try clear q28
                   try clear q283
                   try clear q286
                   try clear q288
                   try clear q289
                   try clear q3
                   try clear q30
                   try clear q46
                   obtain ⟨x13_4, x81_4, rfl, HA, HK4, HO_1, HO_6, HO_8, HO_13, HO_79, HB⟩ := hrel
                   have hl13_4 := (Kd.R_reads' HO_13.out).1
                   rw [hl13_4] at HO_13
                   (try simp only [hl13_4])
                   (try simp only [hl13_4] at HO_1)
                   (try simp only [hl13_4] at HO_6)
                   (try simp only [hl13_4] at HO_8)
                   (try simp only [hl13_4] at HO_79)
                   cases gk with
                  |zero => exact absurd HA.out (by simp [impl_NullVector.l2])
                  |succ k4 =>
                    have H := HA.out
                    clear HA
                    simp only [impl_NullVector.l2] at H
                    by_cases c52 : x81_4 < (t277.length : Int)
                    ·rw [if_pos c52] at H
                     have c52b0 : decide (x81_4 < (t277.length : Int)) = true := decide_eq_true c52
                     clear c52
                     by_cases c53 : 0 ≤ x81_4
                     ·rw [if_pos c53] at H
                      have c53b0 : decide (0 ≤ x81_4) = true := decide_eq_true c53
                      clear c53
                      by_cases c54 : x81_4 < (t277.length : Int)
                      ·rw [if_pos c54] at H
                       have c54b0 : decide (x81_4 < (t277.length : Int)) = true := decide_eq_true c54
                       clear c54
                       replace H := Option.bind_eq_some_iff.mp H
                       obtain ⟨t295, A550, H⟩ := H
                       replace H : (if 0 ≤ x66_3 then (if x66_3 < ((rd_L1 t277 x81_4).length : Int) then (if 0 ≤ t295 then (if t295 < ((rd_L1 t277 x81_4).length : Int) then (if (rd (rd_L1 t277 x81_4) t295) = 0 then (none) else (if t295 < (x13_4.length : Int) then (impl_NullVector.l2 k4 x1_3 (l1.length : Int) t277 x7_2 x8_2 x66_3 (x13_4.set (t295 : Int).toNat (wrap64 ((wrap64 (-(rd (rd_L1 t277 x81_4) x66_3))) * (wrap64 (Int.tdiv x7_2 (rd (rd_L1 t277 x81_4) t295)))))) (l1.length : Int) x66_3 t277 (t277.length : Int) (wrap64 (x81_4 + 1))) else (none))) else (none)) else (none)) else (none)) else (none)) = some r := H
                       have A55 := Aside0.mk A550
                       clear A550
                       by_cases c56 : 0 ≤ x66_3
                       ·rw [if_pos c56] at H
                        have c56b0 : decide (0 ≤ x66_3) = true := decide_eq_true c56
                        clear c56
                        by_cases c57 : x66_3 < ((rd_L1 t277 x81_4).length : Int)
                        ·rw [if_pos c57] at H
                         have c57b0 : decide (x66_3 < ((rd_L1 t277 x81_4).length : Int)) = true := decide_eq_true c57
                         clear c57
                         by_cases c58 : 0 ≤ t295
                         ·rw [if_pos c58] at H
                          have c58b0 : decide (0 ≤ t295) = true := decide_eq_true c58
                          clear c58
                          by_cases c59 : t295 < ((rd_L1 t277 x81_4).length : Int)
                          ·rw [if_pos c59] at H
                           have c59b0 : decide (t295 < ((rd_L1 t277 x81_4).length : Int)) = true := decide_eq_true c59
                           clear c59
                           by_cases c60 : (rd (rd_L1 t277 x81_4) t295) = 0
                           ·rw [if_pos c60] at H
                            exact absurd H (by simp)
                           ·rw [if_neg c60] at H
                            have c60b0 : ((rd (rd_L1 t277 x81_4) t295) == 0) = false := beq_eq_false_iff_ne.mpr c60
                            have c60b1 : ((rd (rd_L1 t277 x81_4) t295) != 0) = true := bne_iff_ne.mpr c60
                            by_cases c61 : t295 < (x13_4.length : Int)
                            ·rw [if_pos c61] at H
                             have c61b0 : decide (t295 < (x13_4.length : Int)) = true := decide_eq_true c61
                             clear c61
                             obtain ⟨y298, hy298⟩ : ∃ y_ : List Int, y_ = (x13_4.set (t295 : Int).toNat (wrap64 ((wrap64 (-(rd (rd_L1 t277 x81_4) x66_3))) * (wrap64 (Int.tdiv x7_2 (rd (rd_L1 t277 x81_4) t295)))))) := ⟨_, rfl⟩
                             replace H : (impl_NullVector.l2 k4 x1_3 (l1.length : Int) t277 x7_2 x8_2 x66_3 y298 (l1.length : Int) x66_3 t277 (t277.length : Int) (wrap64 (x81_4 + 1))) = some r := by first|(rw [hy298];with_reducible exact H)|(have H2_ := (Option.bind_some _ _).symm.trans H;rw [hy298];with_reducible exact H2_)|(have H2_ := (Option.bind_some _ _).symm.trans H;with_reducible exact H2_)|with_reducible exact H|(rw [hy298];exact H)|exact H
                             have Ny298 := Aside0.mk hy298
                             clear hy298
                             have H' := Aside0.mk H
                             clear H
                             have p294 : 0 ≤ (x81_4 : Int) := of_decide_eq_true (by first|(with_reducible assumption)|assumption)
                             have q294 : x81_4 < (t277.length : Int) := of_decide_eq_true (by first|(with_reducible assumption)|assumption)
                             obtain ⟨ad294, A294_0, c294_0, e294, hx294_0, hl294_0, hi294_0⟩ := at_L1 (Kd.N_reads' HO_79.out).2.2 x81_4 p294 q294
                             cases e294
                             obtain ⟨ce294, hce294, hMe294, hcc294⟩ := Kd.N_get HO_79.out [] x81_4 p294 (by first|exact q294|exact of_decide_eq_true (by first|(with_reducible assumption)|assumption)|(have e_ := (Kd.N_reads' HO_79.out).1;omega))
                             obtain ⟨ua294_0, uc294_0, rfl, ul294_0, ge294_0⟩ := Kd.FK_slice_open hMe294
                             have hv294_0 := hcc294 0 _ rfl
                             rw [Nat.add_zero, show ((Kd.slice 3 (Kd.int .i64))).sz = 1 from rfl, Nat.mul_one] at hv294_0
                             replace hv294_0 := Option.some.inj (hv294_0.symm.trans hx294_0)
                             injection hv294_0 with hva_ hvn_ hvc_
                             rw [hva_] at ge294_0
                             rw [hvc_] at ul294_0
                             have HL294_0 := Aside0.mk (show Kd.V (Kd.int .i64) 3 _ w.heap.size _ _ (rd_L1 t277 x81_4) from Kd.V_mk ul294_0 ge294_0)
                             clear hva_ hvn_ hvc_ ge294_0 ul294_0
                             clear hcc294 hce294
                             have HR294_0 := Aside0.mk hi294_0
                             have HC294_0 := Aside0.mk hl294_0
                             clear hi294_0 hl294_0
                             replace p294 := eq_true p294
                             replace q294 := eq_true q294
                             try go_wp2_with (first|((with_reducible refine gate_callee (f := 59) rfl ?_);refine goesL_ (some 86) rfl rfl Try.func59 (by kernel_rfl) rfl #[.slice A294_0 (rd_L1 t277 x81_4).length c294_0] rfl (by (try simp only [List.map_toArray, List.map_cons, List.map_nil]);first|done|rfl|(simp only [List.length_drop, List.length_take];rfl)) ?_;(with_reducible refine (impl_lead.calls k4 _ _ (rd_L1 t277 x81_4) t295 _ ?side1 ?side2 A55.out).mono ?_);(case side1 => repeat (first|exact (by repeat (first|(with_reducible exact HR294_0.out)|(with_reducible refine Kd.C_alloc ?_ _)|(with_reducible refine Kd.C_drewN ?_ _)|(with_reducible refine Kd.C_drew ?_)|exact HR294_0.out))|(with_reducible refine Kd.C_alloc ?_ _)|(with_reducible refine Kd.C_drewN ?_ _)|(with_reducible refine Kd.C_drew ?_)));(case side2 => exact HC294_0.out);rintro e w' ⟨rfl, ⟨nd, rfl⟩⟩;refine ⟨_, rfl, ?_⟩;(try (rw [drewN_self wr];generalize hq_ : World.drewN wr _ = wr;have n0_ : Aside0 (Kd.V (Kd.int .i64) 3 wr w.heap.size (fun k_ => (P1_ k_ ∨ w.heap.size ≤ k_) ∧ some k_ ≠ (.slice (some ⟨go46, 0, none⟩) x13_4.length co46 : Value).ownBlock ∧ some k_ ≠ (.slice (some ad294) t277.length co23 : Value).ownBlock ∧ some k_ ≠ (.slice (some ad289) x8_2.length co47 : Value).ownBlock) (.slice A294_0 (rd_L1 t277 x81_4).length c294_0) (rd_L1 t277 x81_4)) := ⟨by rw [← hq_];exact (by (with_reducible repeat (first|apply Kd.V_alloc|apply Kd.V_drewN|apply Kd.V_drew));exact Kd.V_mono HL294_0.out (fun _ hk => by first|exact ⟨hk.1.1, ⟨hk.1.2.2, ⟨hk.2, hk.1.2.1⟩⟩⟩|((repeat' apply And.intro) <;> first|exact hk.1|exact hk.2|exact hk.1.1|exact hk.1.2|exact hk.2.1|exact hk.2.2|exact hk.1.1.1|exact hk.1.1.2|exact hk.1.2.1|exact hk.1.2.2|exact hk.2.1.1|exact hk.2.1.2|exact hk.2.2.1|exact hk.2.2.2|exact hk.2.2.2.1|exact hk.2.2.2.2|exact hk.1.2.2.1|exact hk.1.2.2.2|exact hk.1.2.2.2.1|exact hk.1.2.2.2.2)))⟩;have n1_ : Aside0 (Kd.V (Kd.int .i64) 3 wr w.heap.size (fun k_ => (P1_ k_ ∨ w.heap.size ≤ k_) ∧ some k_ ≠ (.slice (some ⟨go46, 0, none⟩) x13_4.length co46 : Value).ownBlock ∧ some k_ ≠ (.slice (some ad294) t277.length co23 : Value).ownBlock ∧ some k_ ≠ (.slice (some ad294) t277.length co23 : Value).ownBlock ∧ some k_ ≠ (.slice (some ad289) x8_2.length co47 : Value).ownBlock) (.slice A1 x1_3.length c1) x1_3) := ⟨by rw [← hq_];exact (by (with_reducible repeat (first|apply Kd.V_alloc|apply Kd.V_drewN|apply Kd.V_drew));exact Kd.V_mono HO_1.out (fun _ hk => by first|exact ⟨hk.1, ⟨hk.2.2.2.1, ⟨hk.2.1, ⟨hk.2.2.2.2, hk.2.2.1⟩⟩⟩⟩|((repeat' apply And.intro) <;> first|exact hk.1|exact hk.2|exact hk.1.1|exact hk.1.2|exact hk.2.1|exact hk.2.2|exact hk.1.1.1|exact hk.1.1.2|exact hk.1.2.1|exact hk.1.2.2|exact hk.2.1.1|exact hk.2.1.2|exact hk.2.2.1|exact hk.2.2.2|exact hk.2.2.2.1|exact hk.2.2.2.2|exact hk.1.2.2.1|exact hk.1.2.2.2|exact hk.1.2.2.2.1|exact hk.1.2.2.2.2)))⟩;have n2_ : Aside0 (Kd.R (Kd.int .i64) 3 wr w.heap.size (fun k_ => (w.heap.size ≤ k_)) (.slice (some ⟨go46, 0, none⟩) x13_4.length co46) x13_4) := ⟨by rw [← hq_];exact (by (with_reducible repeat (first|apply Kd.R_alloc|apply Kd.R_drewN|apply Kd.R_drew));exact HO_13.out)⟩;have n3_ : Aside0 (Kd.N (Kd.slice 3 (Kd.int .i64)) 23 wr w.heap.size (fun k_ => (P1_ k_ ∨ w.heap.size ≤ k_) ∧ some k_ ≠ (.slice (some ⟨go46, 0, none⟩) x13_4.length co46 : Value).ownBlock ∧ some k_ ≠ (.slice (some ad289) x8_2.length co47 : Value).ownBlock) (.slice (some ad294) t277.length co23) t277) := ⟨by rw [← hq_];exact (by (with_reducible repeat (first|apply Kd.N_alloc|apply Kd.N_drewN|apply Kd.N_drew));exact Kd.N_mono HO_6.out (fun _ hk => by first|exact ⟨hk.1, ⟨hk.2.2, hk.2.1⟩⟩|((repeat' apply And.intro) <;> first|exact hk.1|exact hk.2|exact hk.1.1|exact hk.1.2|exact hk.2.1|exact hk.2.2|exact hk.1.1.1|exact hk.1.1.2|exact hk.1.2.1|exact hk.1.2.2|exact hk.2.1.1|exact hk.2.1.2|exact hk.2.2.1|exact hk.2.2.2|exact hk.2.2.2.1|exact hk.2.2.2.2|exact hk.1.2.2.1|exact hk.1.2.2.2|exact hk.1.2.2.2.1|exact hk.1.2.2.2.2)))⟩;have n4_ : Aside0 (Kd.N (Kd.slice 3 (Kd.int .i64)) 23 wr w.heap.size (fun k_ => (P1_ k_ ∨ w.heap.size ≤ k_) ∧ some k_ ≠ (.slice (some ⟨go46, 0, none⟩) x13_4.length co46 : Value).ownBlock ∧ some k_ ≠ (.slice (some ad289) x8_2.length co47 : Value).ownBlock) (.slice (some ad294) t277.length co23) t277) := ⟨by rw [← hq_];exact (by (with_reducible repeat (first|apply Kd.N_alloc|apply Kd.N_drewN|apply Kd.N_drew));exact Kd.N_mono HO_79.out (fun _ hk => by first|exact ⟨hk.1, ⟨hk.2.2, hk.2.1⟩⟩|((repeat' apply And.intro) <;> first|exact hk.1|exact hk.2|exact hk.1.1|exact hk.1.2|exact hk.2.1|exact hk.2.2|exact hk.1.1.1|exact hk.1.1.2|exact hk.1.2.1|exact hk.1.2.2|exact hk.2.1.1|exact hk.2.1.2|exact hk.2.2.1|exact hk.2.2.2|exact hk.2.2.2.1|exact hk.2.2.2.2|exact hk.1.2.2.1|exact hk.1.2.2.2|exact hk.1.2.2.2.1|exact hk.1.2.2.2.2)))⟩;have n5_ : Aside0 (Kd.R Kd.bool 4 wr w.heap.size (fun k_ => (w.heap.size ≤ k_)) (.slice (some ad289) x8_2.length co47) x8_2) := ⟨by rw [← hq_];exact (by (with_reducible repeat (first|apply Kd.R_alloc|apply Kd.R_drewN|apply Kd.R_drew));exact HO_8.out)⟩;have n6_ : Aside0 (Below w.heap.size w wr) := ⟨by rw [← hq_];exact (by repeat first|(with_reducible first|exact HB.out|apply below_alloc|apply pw_below_drewN|apply below_drew1)|exact HB.out)⟩;have n7_ : Aside0 (Kd.C (Kd.int .i64) wr A294_0 (rd_L1 t277 x81_4).length (rd_L1 t277 x81_4)) := ⟨by rw [← hq_];exact (by repeat (first|(with_reducible exact HR294_0.out)|(with_reducible refine Kd.C_alloc ?_ _)|(with_reducible refine Kd.C_drewN ?_ _)|(with_reducible refine Kd.C_drew ?_)|exact HR294_0.out))⟩;clear HL294_0 HO_1 HO_13 HO_6 HO_79 HO_8 HB HR294_0 hq_;have HL294_0 := n0_;have HO_1 := n1_;have HO_13 := n2_;have HO_6 := n3_;have HO_79 := n4_;have HO_8 := n5_;have HB := n6_;have HR294_0 := n7_;clear n0_ n1_ n2_ n3_ n4_ n5_ n6_ n7_))))
                             have n0_ := Aside0.mk (Kd.V_drew HO_1.out)
                             have n1_ := Aside0.mk (Kd.N_drew HO_6.out)
                             have n2_ := Aside0.mk (Kd.R_drew HO_8.out)
                             have n3_ := Aside0.mk (Kd.R_drew HO_13.out)
                             have n4_ := Aside0.mk (Kd.N_drew HO_79.out)
                             have n5_ := Aside0.mk (Kd.V_drew HL294_0.out)
                             have n6_ := Aside0.mk (Kd.C_drew HR294_0.out)
                             have n7_ := Aside0.mk (below_drew1 HB.out)
                             clear HO_1
                             clear HO_6
                             clear HO_8
                             clear HO_13
                             clear HO_79
                             clear HL294_0
                             clear HR294_0
                             clear HB
                             have HO_1 := n0_
                             have HO_6 := n1_
                             have HO_8 := n2_
                             have HO_13 := n3_
                             have HO_79 := n4_
                             have HL294_0 := n5_
                             have HR294_0 := n6_
                             have HB := n7_
                             clear n0_ n1_ n2_ n3_ n4_ n5_ n6_ n7_
                             have p296 : 0 ≤ (x66_3 : Int) := of_decide_eq_true (by first|(with_reducible assumption)|assumption)
                             have q296 : x66_3 < ((rd_L1 t277 x81_4).length : Int) := of_decide_eq_true (by first|(with_reducible assumption)|assumption)
                             obtain ⟨ad296, e296, hx296_0⟩ := Kd.at_int (by repeat (first|(with_reducible exact HR294_0.out)|(with_reducible refine Kd.C_alloc ?_ _)|(with_reducible refine Kd.C_drewN ?_ _)|(with_reducible refine Kd.C_drew ?_)|exact HR294_0.out)) x66_3 p296 q296
                             cases e296
                             replace p296 := eq_true p296
                             replace q296 := eq_true q296
                             have p297 : 0 ≤ (t295 : Int) := of_decide_eq_true (by first|(with_reducible assumption)|assumption)
                             have q297 : t295 < ((rd_L1 t277 x81_4).length : Int) := of_decide_eq_true (by first|(with_reducible assumption)|assumption)
                             obtain ⟨ad297, e297, hx297_0⟩ := Kd.at_int (by repeat (first|(with_reducible exact HR294_0.out)|(with_reducible refine Kd.C_alloc ?_ _)|(with_reducible refine Kd.C_drewN ?_ _)|(with_reducible refine Kd.C_drew ?_)|exact HR294_0.out)) t295 p297 q297
                             obtain rfl : ad296 = ad297 := (by injection e297)
                             replace p297 := eq_true p297
                             replace q297 := eq_true q297
                             have p62 : 0 ≤ (t295 : Int) := of_decide_eq_true (by first|(with_reducible assumption)|assumption)
                             have q62 : (t295 : Int) < ((x13_4.length : Int) : Int) := of_decide_eq_true (by first|(with_reducible assumption)|assumption)
                             obtain ⟨hx62_0, hf62_0⟩ := Kd.R_celln 0 HO_13.out (t295 : Int) p62 q62
                             replace p62 := eq_true p62
                             replace q62 := eq_true q62
                             have HP64 := Kd.R_putn HO_13.out (t295 : Int) (wrap64 ((wrap64 (-(rd (rd_L1 t277 x81_4) x66_3))) * (wrap64 (Int.tdiv x7_2 (rd (rd_L1 t277 x81_4) t295)))))
                             rw [← Ny298.out] at HP64
                             have HQ64 := Aside0.mk HP64
                             clear HP64
                             refine start_ (n := 16) (S := fun w' => w'.cell? (ad296.add (x66_3).toNat) = some (.int .i64 (rd (rd_L1 t277 x81_4) x66_3)) ∧ w'.cell? (ad296.add (t295).toNat) = some (.int .i64 (rd (rd_L1 t277 x81_4) t295))) (ds := [15]) #[false, false, false, false, false, false, false, false, false, false, false, false, false, false, false, false] (by kernel_rfl) rfl rfl ⟨hx296_0, hx297_0⟩ (fun hHeld => ?_);refine with_tabW impl_NullVector.tab24 impl_NullVector.bits24 (fun HT_ HW_ => ?_)
                             generalize wr.drew = w63 at HO_1 HO_6 HO_8 HO_13 HO_79 HL294_0 HR294_0 HB HQ64 hf62_0 hx296_0 hx297_0 hx62_0 hHeld ⊢
                             refine pure_ (i := 0) (N := some 87) (v := ?_) (a' := ?_) #[true, false, false, false, false, false, false, false, false, false, false, false, false, false, false, false] rfl rfl (any_of HT_.out (by kernel_rfl)) (fun _ _ _ h => h) (Or.inl ⟨by rfl, ?_⟩) ?_ ?_
                             rotate_left
                             ·intro w'
                              go_simp
                              with_reducible rfl
                             rotate_left
                             ·simp only [Act.put, List.setIfInBounds_toArray, List.set_cons_zero, List.set_cons_succ, i64_w, i32_w]
                              rfl
                             refine pure_ (i := 1) (N := some 88) (v := ?_) (a' := ?_) #[true, true, false, false, false, false, false, false, false, false, false, false, false, false, false, false] rfl rfl (any_of HT_.out (by kernel_rfl)) (fun _ _ _ h => h) (Or.inl ⟨by rfl, ?_⟩) ?_ ?_
                             rotate_left
                             ·intro w'
                              go_simp
                              with_reducible rfl
                             rotate_left
                             ·simp only [Act.put, List.setIfInBounds_toArray, List.set_cons_zero, List.set_cons_succ, i64_w, i32_w]
                              rfl
                             refine pure_ (i := 2) (N := some 89) (v := ?_) (a' := ?_) #[true, true, true, false, false, false, false, false, false, false, false, false, false, false, false, false] rfl rfl (any_of HT_.out (by kernel_rfl)) (fun _ _ _ h => h) (Or.inl ⟨by rfl, ?_⟩) ?_ ?_
                             rotate_left
                             ·intro w'
                              go_simp
                              with_reducible rfl
                             rotate_left
                             ·simp only [Act.put, List.setIfInBounds_toArray, List.set_cons_zero, List.set_cons_succ, i64_w, i32_w]
                              rfl
                             refine pure_ (i := 3) (N := some 90) (v := ?_) (a' := ?_) #[true, true, true, true, false, false, false, false, false, false, false, false, false, false, false, false] rfl rfl (any_of HT_.out (by kernel_rfl)) (fun _ _ _ h => h) (Or.inl ⟨by rfl, ?_⟩) ?_ ?_
                             rotate_left
                             ·intro w'
                              go_simp
                              with_reducible rfl
                             rotate_left
                             ·simp only [Act.put, List.setIfInBounds_toArray, List.set_cons_zero, List.set_cons_succ, i64_w, i32_w]
                              rfl
                             refine pure_ (i := 4) (N := some 91) (v := ?_) (a' := ?_) #[true, true, true, true, true, false, false, false, false, false, false, false, false, false, false, false] rfl rfl (any_of HT_.out (by kernel_rfl)) (fun _ _ _ h => h) (Or.inl ⟨by rfl, ?_⟩) ?_ ?_
                             rotate_left
                             ·intro w'
                              go_simp
                              with_reducible rfl
                             rotate_left
                             ·simp only [Act.put, List.setIfInBounds_toArray, List.set_cons_zero, List.set_cons_succ, i64_w, i32_w]
                              rfl
                             refine pure_ (i := 7) (N := some 94) (v := ?_) (a' := ?_) #[true, true, true, true, true, false, false, true, false, false, false, false, false, false, false, false] rfl rfl (any_of HT_.out (by kernel_rfl)) (fun _ _ _ h => h) (Or.inl ⟨by rfl, ?_⟩) ?_ ?_
                             rotate_left
                             ·intro w'
                              go_simp
                              with_reducible rfl
                             rotate_left
                             ·simp only [Act.put, List.setIfInBounds_toArray, List.set_cons_zero, List.set_cons_succ, i64_w, i32_w]
                              rfl
                             refine pure_ (i := 8) (N := some 95) (v := ?_) (a' := ?_) #[true, true, true, true, true, false, false, true, true, false, false, false, false, false, false, false] rfl rfl (any_of HT_.out (by kernel_rfl)) (fun _ _ _ h => h) (Or.inl ⟨by rfl, ?_⟩) ?_ ?_
                             rotate_left
                             ·intro w'
                              go_simp
                              with_reducible rfl
                             rotate_left
                             ·simp only [Act.put, List.setIfInBounds_toArray, List.set_cons_zero, List.set_cons_succ, i64_w, i32_w]
                              rfl
                             refine pure_ (i := 9) (N := some 96) (v := ?_) (a' := ?_) #[true, true, true, true, true, false, false, true, true, true, false, false, false, false, false, false] rfl rfl (any_of HT_.out (by kernel_rfl)) (fun _ _ _ h => h) (Or.inl ⟨by rfl, ?_⟩) ?_ ?_
                             rotate_left
                             ·intro w'
                              go_simp
                              with_reducible rfl
                             rotate_left
                             ·simp only [Act.put, List.setIfInBounds_toArray, List.set_cons_zero, List.set_cons_succ, i64_w, i32_w]
                              rfl
                             refine pure_ (i := 10) (N := some 97) (v := ?_) (a' := ?_) #[true, true, true, true, true, false, false, true, true, true, true, false, false, false, false, false] rfl rfl (any_of HT_.out (by kernel_rfl)) (fun _ _ _ h => h) (Or.inl ⟨by rfl, ?_⟩) ?_ ?_
                             rotate_left
                             ·intro w'
                              go_simp
                              with_reducible rfl
                             rotate_left
                             ·simp only [Act.put, List.setIfInBounds_toArray, List.set_cons_zero, List.set_cons_succ, i64_w, i32_w]
                              rfl
                             refine take_ (i := 5) (N := some 92) (v := ?_) (a' := ?_) #[true, true, true, true, true, true, false, true, true, true, true, false, false, false, false, false] rfl rfl (take_ofW HT_.out HW_.out (by kernel_rfl)) (fun _ _ _ h => h) (Or.inl ⟨by rfl, ?_⟩) hHeld ?_ ?_
                             rotate_left
                             ·rintro w' ⟨s0, s1⟩
                              go_simp
                              with_reducible rfl
                             rotate_left
                             ·simp only [Act.put, List.setIfInBounds_toArray, List.set_cons_zero, List.set_cons_succ, i64_w, i32_w]
                              rfl
                             refine pure_ (i := 6) (N := some 93) (v := ?_) (a' := ?_) #[true, true, true, true, true, true, true, true, true, true, true, false, false, false, false, false] rfl rfl (any_of HT_.out (by kernel_rfl)) (fun _ _ _ h => h) (Or.inl ⟨by rfl, ?_⟩) ?_ ?_
                             rotate_left
                             ·intro w'
                              go_simp
                              with_reducible rfl
                             rotate_left
                             ·simp only [Act.put, List.setIfInBounds_toArray, List.set_cons_zero, List.set_cons_succ, i64_w, i32_w]
                              rfl
                             refine take_ (i := 11) (N := some 98) (v := ?_) (a' := ?_) #[true, true, true, true, true, true, true, true, true, true, true, true, false, false, false, false] rfl rfl (take_ofW HT_.out HW_.out (by kernel_rfl)) (fun _ _ _ h => h) (Or.inl ⟨by rfl, ?_⟩) hHeld ?_ ?_
                             rotate_left
                             ·rintro w' ⟨s0, s1⟩
                              go_simp
                              with_reducible rfl
                             rotate_left
                             ·simp only [Act.put, List.setIfInBounds_toArray, List.set_cons_zero, List.set_cons_succ, i64_w, i32_w]
                              rfl
                             refine pure_ (i := 12) (N := some 99) (v := ?_) (a' := ?_) #[true, true, true, true, true, true, true, true, true, true, true, true, true, false, false, false] rfl rfl (any_of HT_.out (by kernel_rfl)) (fun _ _ _ h => h) (Or.inl ⟨by rfl, ?_⟩) ?_ ?_
                             rotate_left
                             ·intro w'
                              go_simp
                              with_reducible rfl
                             rotate_left
                             ·simp only [Act.put, List.setIfInBounds_toArray, List.set_cons_zero, List.set_cons_succ, i64_w, i32_w]
                              rfl
                             refine pure_ (i := 13) (N := some 100) (v := ?_) (a' := ?_) #[true, true, true, true, true, true, true, true, true, true, true, true, true, true, false, false] rfl rfl (any_of HT_.out (by kernel_rfl)) (fun _ _ _ h => h) (Or.inl ⟨by rfl, ?_⟩) ?_ ?_
                             rotate_left
                             ·intro w'
                              go_simp
                              with_reducible rfl
                             rotate_left
                             ·simp only [Act.put, List.setIfInBounds_toArray, List.set_cons_zero, List.set_cons_succ, i64_w, i32_w]
                              rfl
                             refine pure_ (i := 14) (N := some 101) (v := ?_) (a' := ?_) #[true, true, true, true, true, true, true, true, true, true, true, true, true, true, true, false] rfl rfl (any_of HT_.out (by kernel_rfl)) (fun _ _ _ h => h) (Or.inl ⟨by rfl, ?_⟩) ?_ ?_
                             rotate_left
                             ·intro w'
                              go_simp
                              with_reducible rfl
                             rotate_left
                             ·simp only [Act.put, List.setIfInBounds_toArray, List.set_cons_zero, List.set_cons_succ, i64_w, i32_w]
                              rfl
                             refine last_ (i := 15) (N := none) #[true, true, true, true, true, true, true, true, true, true, true, true, true, true, true, true] rfl rfl (one_of HT_.out (by kernel_rfl)) (by decide) (fun K hK => ?_)
                             refine skip_ (w1 := ?_) (by rfl) rfl ?_ ?_
                             rotate_left
                             ·go_simp
                              rfl
                             refine hK.out _ _ ?_
                             clear hK K
                             refine done_ (done_of HT_.out (by kernel_rfl)) ?_
                             try go_wp2
                             (try simp only [← hl13_4])
                             go_roundg k4
                             case measure => have := HJ2.out;have := HK2.out;have := HK3.out;have := HK4.out;omega
                             case rel => exact ⟨(y298), (wrap64 (x81_4 + 1)), (by first|rfl|(simp;done)|(simp [*];done)), H', ⟨by have := HJ2.out;have := HK2.out;have := HK3.out;have := HK4.out;omega⟩, ⟨by (try simp only [hl1_3]);(try simp only [hl13_4]);(with_reducible repeat (first|apply Kd.V_alloc|apply Kd.V_drewN|apply Kd.V_drew));exact Kd.V_mono (Kd.V_far (p := ⟨go46, (t295 : Int).toNat, none⟩) (Kd.V_mono HO_1.out (fun k_ hk => (⟨hk, fun e_ => by rw [e_] at hk;first|exact hk.1 rfl|exact hk.2 rfl|exact hk.1.1 rfl|exact hk.1.2 rfl|exact hk.2.1 rfl|exact hk.2.2 rfl|exact hk.1.2.1 rfl|exact hk.1.2.2 rfl|exact hk.2.2.1 rfl|exact hk.2.2.2 rfl|exact hk.2.2.2.1 rfl|exact hk.2.2.2.2 rfl⟩ : _ ∧ k_ ≠ go46))) (fun _ hk => hk.2) (.int .i64 (wrap64 ((wrap64 (-(rd (rd_L1 t277 x81_4) x66_3))) * (wrap64 (Int.tdiv x7_2 (rd (rd_L1 t277 x81_4) t295))))))) (fun _ hk => by first|exact ⟨hk.1.1, ⟨hk.1.2.1, ⟨hk.1.2.2.1, ⟨hk.1.2.2.2.1, hk.1.2.2.2.2⟩⟩⟩⟩|((repeat' apply And.intro) <;> first|exact hk.1|exact hk.2|exact hk.1.1|exact hk.1.2|exact hk.2.1|exact hk.2.2|exact hk.1.1.1|exact hk.1.1.2|exact hk.1.2.1|exact hk.1.2.2|exact hk.2.1.1|exact hk.2.1.2|exact hk.2.2.1|exact hk.2.2.2|exact hk.2.2.2.1|exact hk.2.2.2.2|exact hk.1.2.2.1|exact hk.1.2.2.2|exact hk.1.2.2.2.1|exact hk.1.2.2.2.2))⟩, ⟨by (try simp only [hl1_3]);(try simp only [hl13_4]);(with_reducible repeat (first|apply Kd.N_alloc|apply Kd.N_drewN|apply Kd.N_drew));exact Kd.N_mono (Kd.N_far (p := ⟨go46, (t295 : Int).toNat, none⟩) (Kd.N_mono HO_6.out (fun k_ hk => (⟨hk, fun e_ => by rw [e_] at hk;first|exact hk.1 rfl|exact hk.2 rfl|exact hk.1.1 rfl|exact hk.1.2 rfl|exact hk.2.1 rfl|exact hk.2.2 rfl|exact hk.1.2.1 rfl|exact hk.1.2.2 rfl|exact hk.2.2.1 rfl|exact hk.2.2.2 rfl|exact hk.2.2.2.1 rfl|exact hk.2.2.2.2 rfl⟩ : _ ∧ k_ ≠ go46))) (fun _ hk => hk.2) (.int .i64 (wrap64 ((wrap64 (-(rd (rd_L1 t277 x81_4) x66_3))) * (wrap64 (Int.tdiv x7_2 (rd (rd_L1 t277 x81_4) t295))))))) (fun _ hk => by first|exact ⟨hk.1.1, ⟨hk.1.2.1, hk.1.2.2⟩⟩|((repeat' apply And.intro) <;> first|exact hk.1|exact hk.2|exact hk.1.1|exact hk.1.2|exact hk.2.1|exact hk.2.2|exact hk.1.1.1|exact hk.1.1.2|exact hk.1.2.1|exact hk.1.2.2|exact hk.2.1.1|exact hk.2.1.2|exact hk.2.2.1|exact hk.2.2.2|exact hk.2.2.2.1|exact hk.2.2.2.2|exact hk.1.2.2.1|exact hk.1.2.2.2|exact hk.1.2.2.2.1|exact hk.1.2.2.2.2))⟩, ⟨by (try simp only [hl1_3]);(try simp only [hl13_4]);(with_reducible repeat (first|apply Kd.R_alloc|apply Kd.R_drewN|apply Kd.R_drew));exact Kd.R_mono (Kd.R_far (p := ⟨go46, (t295 : Int).toNat, none⟩) (Kd.R_types HO_8.out (Kd.R_typed HO_13.out go46 rfl).choose_spec (by decide)) (fun _ hk => hk.2) (.int .i64 (wrap64 ((wrap64 (-(rd (rd_L1 t277 x81_4) x66_3))) * (wrap64 (Int.tdiv x7_2 (rd (rd_L1 t277 x81_4) t295))))))) (fun _ hk => hk.1)⟩, ⟨by (try simp only [hl1_3]);(try simp only [hl13_4]);(with_reducible repeat (first|apply Kd.R_alloc|apply Kd.R_drewN|apply Kd.R_drew));exact HQ64.out⟩, ⟨by (try simp only [hl1_3]);(try simp only [hl13_4]);(with_reducible repeat (first|apply Kd.N_alloc|apply Kd.N_drewN|apply Kd.N_drew));exact Kd.N_mono (Kd.N_far (p := ⟨go46, (t295 : Int).toNat, none⟩) (Kd.N_mono HO_79.out (fun k_ hk => (⟨hk, fun e_ => by rw [e_] at hk;first|exact hk.1 rfl|exact hk.2 rfl|exact hk.1.1 rfl|exact hk.1.2 rfl|exact hk.2.1 rfl|exact hk.2.2 rfl|exact hk.1.2.1 rfl|exact hk.1.2.2 rfl|exact hk.2.2.1 rfl|exact hk.2.2.2 rfl|exact hk.2.2.2.1 rfl|exact hk.2.2.2.2 rfl⟩ : _ ∧ k_ ≠ go46))) (fun _ hk => hk.2) (.int .i64 (wrap64 ((wrap64 (-(rd (rd_L1 t277 x81_4) x66_3))) * (wrap64 (Int.tdiv x7_2 (rd (rd_L1 t277 x81_4) t295))))))) (fun _ hk => by first|exact ⟨hk.1.1, ⟨hk.1.2.1, hk.1.2.2⟩⟩|((repeat' apply And.intro) <;> first|exact hk.1|exact hk.2|exact hk.1.1|exact hk.1.2|exact hk.2.1|exact hk.2.2|exact hk.1.1.1|exact hk.1.1.2|exact hk.1.2.1|exact hk.1.2.2|exact hk.2.1.1|exact hk.2.1.2|exact hk.2.2.1|exact hk.2.2.2|exact hk.2.2.2.1|exact hk.2.2.2.2|exact hk.1.2.2.1|exact hk.1.2.2.2|exact hk.1.2.2.2.1|exact hk.1.2.2.2.2))⟩, ⟨by repeat (first|(with_reducible first|exact HB.out|apply below_alloc|apply pw_below_drewN|apply below_drew1|refine below_set ?_ GB46.out)|exact HB.out)⟩⟩
                            ·rw [if_neg c61] at H
                             exact absurd H (by simp)
                          ·rw [if_neg c59] at H
                           exact absurd H (by simp)
                         ·rw [if_neg c58] at H
                          exact absurd H (by simp)
                        ·rw [if_neg c57] at H
                         exact absurd H (by simp)
                       ·rw [if_neg c56] at H
                        exact absurd H (by simp)
                      ·rw [if_neg c54] at H
                       exact absurd H (by simp)
                     ·rw [if_neg c53] at H
                      exact absurd H (by simp)
                    ·rw [if_neg c52] at H
                     have c52b0 : decide (x81_4 < (t277.length : Int)) = false := decide_eq_false c52
                     clear c52
                     replace H := Option.bind_eq_some_iff.mp H
                     obtain ⟨t299, A650, H⟩ := H
                     replace H : (if t299 = 0 then (impl_NullVector.l1 k4 x1_3 (l1.length : Int) t277 x7_2 x8_2 (l1.length : Int) (wrap64 (x66_3 + 1))) else (some x13_4)) = some r := H
                     have A65 := Aside0.mk A650
                     clear A650
                     by_cases c66 : t299 = 0
                     ·rw [if_pos c66] at H
                      have c66b0 : (t299 == 0) = true := beq_iff_eq.mpr c66
                      have c66b1 : (t299 != 0) = false := bne_eq_false_iff_eq.mpr c66
                      clear c66
                      have H' := Aside0.mk H
                      clear H
                      go_wp2_with (first|((with_reducible refine gate_callee (f := 55) rfl ?_);refine goesL_ (some 105) rfl rfl Try.func55 (by kernel_rfl) rfl #[.slice (some ⟨go46, 0, none⟩) x13_4.length co46, .slice A1 x1_3.length c1] rfl (by (try simp only [List.map_toArray, List.map_cons, List.map_nil]);first|done|rfl|(simp only [List.length_drop, List.length_take];rfl)) ?_;(with_reducible refine (impl_DotOf.calls k4 _ _ x13_4 _ _ x1_3 t299 _ ?side1 ?side2 ?side3 ?side4 A65.out).mono ?_);(case side1 => repeat (first|exact (Kd.R_reads' HO_13.out).2.2|(with_reducible refine Kd.C_alloc ?_ _)|(with_reducible refine Kd.C_drewN ?_ _)|(with_reducible refine Kd.C_drew ?_)));(case side2 => exact (Kd.R_reads' HO_13.out).2.1);(case side3 => repeat (first|exact (Kd.V_reads' HO_1.out).2.2|(with_reducible refine Kd.C_alloc ?_ _)|(with_reducible refine Kd.C_drewN ?_ _)|(with_reducible refine Kd.C_drew ?_)));(case side4 => exact (Kd.V_reads' HO_1.out).2.1);rintro e w67 ⟨rfl, hb⟩;refine ⟨_, rfl, ?_⟩;have n0_ := Aside0.mk (Kd.V_below (by (with_reducible repeat (first|apply Kd.V_alloc|apply Kd.V_drewN|apply Kd.V_drew));exact HO_1.out) hb);have n1_ := Aside0.mk (Kd.N_below (by (with_reducible repeat (first|apply Kd.N_alloc|apply Kd.N_drewN|apply Kd.N_drew));exact HO_6.out) hb);have n2_ := Aside0.mk (Kd.R_below (by (with_reducible repeat (first|apply Kd.R_alloc|apply Kd.R_drewN|apply Kd.R_drew));exact HO_8.out) hb);have n3_ := Aside0.mk (Kd.R_below (by (with_reducible repeat (first|apply Kd.R_alloc|apply Kd.R_drewN|apply Kd.R_drew));exact HO_13.out) hb);have n4_ := Aside0.mk (Kd.N_below (by (with_reducible repeat (first|apply Kd.N_alloc|apply Kd.N_drewN|apply Kd.N_drew));exact HO_79.out) hb);have n5_ := Aside0.mk (below_step (by repeat first|(with_reducible first|exact HB.out|apply below_alloc|apply pw_below_drewN|apply below_drew1)|exact HB.out) hb);clear HO_1;clear HO_6;clear HO_8;clear HO_13;clear HO_79;clear HB;have HO_1 := n0_;have HO_6 := n1_;have HO_8 := n2_;have HO_13 := n3_;have HO_79 := n4_;have HB := n5_;clear n0_ n1_ n2_ n3_ n4_ n5_;(try clear hb);(try clear hb2);(try clear hk);(try clear hi)))
                      (try simp only [← hl1_3, ← hl13_4])
                      go_roundg k4
                      case measure => have := HJ2.out;have := HK2.out;have := HK3.out;have := HK4.out;omega
                      case rel => exact ⟨(x1_3), (wrap64 (x66_3 + 1)), (by first|rfl|(simp;done)|(simp [*];done)), H', ⟨by have := HJ2.out;have := HK2.out;have := HK3.out;have := HK4.out;omega⟩, ⟨by (try simp only [hl1_3]);(try simp only [hl13_4]);(with_reducible repeat (first|apply Kd.V_alloc|apply Kd.V_drewN|apply Kd.V_drew));exact Kd.V_mono HO_1.out (fun _ hk => by first|exact ⟨hk.1, ⟨hk.2.1, hk.2.2.1⟩⟩|((repeat' apply And.intro) <;> first|exact hk.1|exact hk.2|exact hk.1.1|exact hk.1.2|exact hk.2.1|exact hk.2.2|exact hk.1.1.1|exact hk.1.1.2|exact hk.1.2.1|exact hk.1.2.2|exact hk.2.1.1|exact hk.2.1.2|exact hk.2.2.1|exact hk.2.2.2|exact hk.2.2.2.1|exact hk.2.2.2.2|exact hk.1.2.2.1|exact hk.1.2.2.2|exact hk.1.2.2.2.1|exact hk.1.2.2.2.2))⟩, ⟨by (try simp only [hl1_3]);(try simp only [hl13_4]);(with_reducible repeat (first|apply Kd.N_alloc|apply Kd.N_drewN|apply Kd.N_drew));exact Kd.N_mono HO_6.out (fun _ hk => by first|exact ⟨hk.1, hk.2.1⟩|((repeat' apply And.intro) <;> first|exact hk.1|exact hk.2|exact hk.1.1|exact hk.1.2|exact hk.2.1|exact hk.2.2|exact hk.1.1.1|exact hk.1.1.2|exact hk.1.2.1|exact hk.1.2.2|exact hk.2.1.1|exact hk.2.1.2|exact hk.2.2.1|exact hk.2.2.2|exact hk.2.2.2.1|exact hk.2.2.2.2|exact hk.1.2.2.1|exact hk.1.2.2.2|exact hk.1.2.2.2.1|exact hk.1.2.2.2.2))⟩, ⟨by (try simp only [hl1_3]);(try simp only [hl13_4]);(with_reducible repeat (first|apply Kd.R_alloc|apply Kd.R_drewN|apply Kd.R_drew));exact HO_8.out⟩, ⟨by repeat (first|(with_reducible first|exact HB.out|apply below_alloc|apply pw_below_drewN|apply below_drew1)|exact HB.out)⟩⟩
                     ·rw [if_neg c66] at H
                      have c66b0 : (t299 == 0) = false := beq_eq_false_iff_ne.mpr c66
                      have c66b1 : (t299 != 0) = true := bne_iff_ne.mpr c66
                      obtain rfl := Option.some.inj H
                      go_wp2_with (first|((with_reducible refine gate_callee (f := 55) rfl ?_);refine goesL_ (some 105) rfl rfl Try.func55 (by kernel_rfl) rfl #[.slice (some ⟨go46, 0, none⟩) x13_4.length co46, .slice A1 x1_3.length c1] rfl (by (try simp only [List.map_toArray, List.map_cons, List.map_nil]);first|done|rfl|(simp only [List.length_drop, List.length_take];rfl)) ?_;(with_reducible refine (impl_DotOf.calls k4 _ _ x13_4 _ _ x1_3 t299 _ ?side1 ?side2 ?side3 ?side4 A65.out).mono ?_);(case side1 => repeat (first|exact (Kd.R_reads' HO_13.out).2.2|(with_reducible refine Kd.C_alloc ?_ _)|(with_reducible refine Kd.C_drewN ?_ _)|(with_reducible refine Kd.C_drew ?_)));(case side2 => exact (Kd.R_reads' HO_13.out).2.1);(case side3 => repeat (first|exact (Kd.V_reads' HO_1.out).2.2|(with_reducible refine Kd.C_alloc ?_ _)|(with_reducible refine Kd.C_drewN ?_ _)|(with_reducible refine Kd.C_drew ?_)));(case side4 => exact (Kd.V_reads' HO_1.out).2.1);rintro e w68 ⟨rfl, hb⟩;refine ⟨_, rfl, ?_⟩;have n0_ := Aside0.mk (Kd.V_below (by (with_reducible repeat (first|apply Kd.V_alloc|apply Kd.V_drewN|apply Kd.V_drew));exact HO_1.out) hb);have n1_ := Aside0.mk (Kd.N_below (by (with_reducible repeat (first|apply Kd.N_alloc|apply Kd.N_drewN|apply Kd.N_drew));exact HO_6.out) hb);have n2_ := Aside0.mk (Kd.R_below (by (with_reducible repeat (first|apply Kd.R_alloc|apply Kd.R_drewN|apply Kd.R_drew));exact HO_8.out) hb);have n3_ := Aside0.mk (Kd.R_below (by (with_reducible repeat (first|apply Kd.R_alloc|apply Kd.R_drewN|apply Kd.R_drew));exact HO_13.out) hb);have n4_ := Aside0.mk (Kd.N_below (by (with_reducible repeat (first|apply Kd.N_alloc|apply Kd.N_drewN|apply Kd.N_drew));exact HO_79.out) hb);have n5_ := Aside0.mk (below_step (by repeat first|(with_reducible first|exact HB.out|apply below_alloc|apply pw_below_drewN|apply below_drew1)|exact HB.out) hb);clear HO_1;clear HO_6;clear HO_8;clear HO_13;clear HO_79;clear HB;have HO_1 := n0_;have HO_6 := n1_;have HO_8 := n2_;have HO_13 := n3_;have HO_79 := n4_;have HB := n5_;clear n0_ n1_ n2_ n3_ n4_ n5_;(try clear hb);(try clear hb2);(try clear hk);(try clear hi)))
                      go_ret
                      exact ⟨_, by first|rfl|(simp [errW_none, errW_some] <;> rfl)|(simp [*, errW_none, errW_some] <;> rfl), by (with_reducible repeat (first|apply Kd.R_alloc|apply Kd.R_drewN|apply Kd.R_drew));exact HO_13.out, by repeat (first|(with_reducible first|exact HB.out|apply below_alloc|apply pw_below_drewN|apply below_drew1)|exact HB.out)⟩
                 ·rw [if_neg c45] at H
                  exact absurd H (by simp)
                ·rw [if_neg c44] at H
                 exact absurd H (by simp)
               ·rw [if_neg c43] at H
                exact absurd H (by simp)
             ·rw [if_neg c39] at H
              exact absurd H (by simp)
            ·rw [if_neg c38] at H
             exact absurd H (by simp)
           ·rw [if_neg c37] at H
            have c37b0 : decide (x66_3 < (l1.length : Int)) = false := decide_eq_false c37
            have c37b1 : decide (x66_3 < (x1_3.length : Int)) = false := by rw [show (x1_3.length : Int) = (l1.length : Int) by omega];exact c37b0
            clear c37
            obtain rfl := Option.some.inj H
            go_wp2
            go_ret
            exact ⟨_, by first|rfl|(simp [errW_none, errW_some] <;> rfl)|(simp [*, errW_none, errW_some] <;> rfl), by first|exact Kd.R_nil _ _ _ _ _|exact Kd.N_nil _ _ _ _ _|exact Kd.V_nil _ _ _ _ _|exact Kd.Q_nil _ _ _ _ _|exact Kd.S_nil _ _ _ _ _, by repeat (first|(with_reducible first|exact HB.out|apply below_alloc|apply pw_below_drewN|apply below_drew1)|exact HB.out)⟩
     ·rw [if_neg c19] at H
      exact absurd H (by simp)
    ·rw [if_neg c18] at H
     exact absurd H (by simp)
theorem impl_NullVector.calls (k : Nat) (A0 : Option Addr) (c0 : Nat) (l0 : List (List Int)) (A1 : Option Addr) (c1 : Nat) (l1 : List Int) (r : List Int) (w : World) (hr0 : Kd.C (Kd.slice 3 (Kd.int .i64)) w A0 l0.length l0) (hc0 : l0.length ≤ c0) (hr1 : Kd.C (Kd.int .i64) w A1 l1.length l1) (hc1 : l1.length ≤ c1) (h : impl_NullVector.f k l0 l1 = some r) :
  Calls Try.prog 42 #[.slice A0 l0.length c0, .slice A1 l1.length c1] w fun e w' => ∃ v0_ : Value, e = .returned (v0_) ∧ Kd.R (Kd.int .i64) 3 w' w.heap.size (fun _ => True) v0_ r ∧ Below w.heap.size w w' :=
 (impl_NullVector.callsV k _ _ l0 (fun k_ => k_ < w.heap.size) _ _ l1 r w hr0 hc0 (Kd.V_mk hc1 (Kd.C_F (Kd.heap_int _) hr1)) h).mono fun e w' ⟨v0_, h1, h2, h3⟩ => ⟨v0_, h1, Kd.R_mono h2 fun _ _ => trivial, h3⟩
def impl_RankOf.f (k : Nat) (l0 : List (List Int)) (a1 : Int) : Option (Int) := (impl_ReduceRows.f k l0 a1).bind fun t263 => (some (t263.length : Int))
set_option maxHeartbeats 8000000 in
set_option maxRecDepth 100000 in
theorem impl_RankOf.calls (k : Nat) (A0 : Option Addr) (c0 : Nat) (l0 : List (List Int)) (a1 : Int) (r : Int) (w : World) (hr0 : Kd.C (Kd.slice 3 (Kd.int .i64)) w A0 l0.length l0) (hc0 : l0.length ≤ c0) (h : impl_RankOf.f k l0 a1 = some r) :
 Calls Try.prog 43 #[.slice A0 l0.length c0, .int .i64 a1] w fun e w' => e = .returned (.int .i64 r) ∧ Below w.heap.size w w' := by
 have HR0:=aM hr0;have HC0:=aM hc0;clear hr0 hc0;have HB:=aM (Below.refl w.heap.size w);have H:((impl_ReduceRows.f k l0 a1).bind fun t263=>(some (t263.length:Int)))=some r:=h;clear h;obtain ⟨t263,A3,H⟩:=bz H;obtain rfl:=Option.some.inj H;go_enter Try.func43,Try.ntmps43;go_wp2_with (first|((with_reducible refine gate_callee (f:=39) rfl ?_);refine gm (some 7) Try.func39 #[.slice A0 l0.length c0,.int .i64 a1] ?_;(with_reducible refine (impl_ReduceRows.calls k _ _ l0 a1 t263 _ ?side1 ?side2 A3.out).mono ?_);(case side1=>exact zc HR0.out);(case side2=>exact HC0.out);rintro e w4 ⟨v264,rfl,ho0,hb⟩;refine ⟨_,rfl,?_⟩;have HO265:=aM (Kd.S_lower ho0 (below_size (zb HB.out)));replace HB:=aM (below_step (zb HB.out) hb);(try clear hb);(try clear hb2);(try clear hk);(try clear hi);(try clear ho0);obtain ⟨Ao5,co5,eo5⟩:=Kd.S_slice HO265.out;subst eo5));go_ret;exact ⟨by first|rfl|(simp [errW_none,errW_some]<;>rfl)|(simp [*,errW_none,errW_some]<;>rfl),zb HB.out⟩
end Go.Proofs.Ytojkepidkmkmpaa.PFnRows
end
section
namespace Go.Proofs.Ytojkepidkmkmpaa.PFnRows
open Go.Proofs.YtojkepidkmkmpaaW.PrintWords.Aside0 renaming mk → aM
open List renaming setIfInBounds_toArray → qa, set_cons_zero → qz, set_cons_succ → qs
open Bool renaming true → tt, false → ff
open Option renaming bind_eq_some_iff → bE

open Go.RowKit Go.Proofs.YtojkepidkmkmpaaW.PrintWords Go.Proofs.YtojkepidkmkmpaaW.PrintLast Go.Proofs.YtojkepidkmkmpaaW.PrintMore
attribute [local go_sem] max2_int min2_int max_two min_two max_three min_three max_four min_four
set_option linter.unusedVariables false
set_option linter.unusedSimpArgs false
mutual
def laws_FnRows.l0 : Nat → List (List Int) → Int → List (List Int) → Int → Option (Bool)
 | 0, _, _, _, _ => none
 | k + 1, x3, x4, x5, x6 => if x6 < (x3.length : Int) then (if 0 ≤ x6 then ((impl_NullVector.f k x3 (rd_L1 x3 x6)).bind fun t278 => ((impl_IsInSpan.f k x3 (rd_L1 x3 x6)).bind fun t282 => (if t282 = true then (if (t278.length : Int) > 0 then (some false) else (laws_FnRows.l0 k x3 x4 x5 (wrap64 (x6 + 1)))) else (some false)))) else (none)) else (laws_FnRows.l1 k x3 x4 x5 (-1) 0)
def laws_FnRows.l1 : Nat → List (List Int) → Int → List (List Int) → Int → Int → Option (Bool)
 | 0, _, _, _, _, _ => none
 | k + 1, x3, x4, x5, x8, x9 => if x9 < (x5.length : Int) then (laws_FnRows.l2 k x3 x4 x5 x8 x9 0) else (if (x5.length : Int) ≤ (x3.length : Int) then (if (x5.length : Int) ≤ x4 then ((impl_RankOf.f k x3 x4).bind fun t283 => (some (t283 == (x5.length : Int)))) else (some false)) else (some false))
def laws_FnRows.j3 : Nat → List (List Int) → Int → List (List Int) → Int → Int → Int → Option (Bool)
 | 0, _, _, _, _, _, _ => none
 | k + 1, x3, x4, x5, x8, x9, x10 => if x10 = x4 then (laws_FnRows.j4 k x3 x4 x5 x9 x10 true) else (if x10 ≤ x8 then (laws_FnRows.j4 k x3 x4 x5 x9 x10 true) else (if 0 ≤ x9 then (if x9 < (x5.length : Int) then (if 0 ≤ x10 then (if x10 < ((rd_L1 x5 x9).length : Int) then (laws_FnRows.j4 k x3 x4 x5 x9 x10 (decide ((rd (rd_L1 x5 x9) x10) < 0))) else (none)) else (none)) else (none)) else (none)))
def laws_FnRows.j4 : Nat → List (List Int) → Int → List (List Int) → Int → Int → Bool → Option (Bool)
 | 0, _, _, _, _, _, _ => none
 | k + 1, x3, x4, x5, x9, x10, x98 => if x98 = true then (some false) else (laws_FnRows.l3 k x3 x4 x5 x9 x10 0)
def laws_FnRows.l3 : Nat → List (List Int) → Int → List (List Int) → Int → Int → Int → Option (Bool)
 | 0, _, _, _, _, _, _ => none
 | k + 1, x3, x4, x5, x9, x10, x11 => if x11 < (x5.length : Int) then (if x11 = x9 then (laws_FnRows.l3 k x3 x4 x5 x9 x10 (wrap64 (x11 + 1))) else (if 0 ≤ x11 then (if 0 ≤ x10 then (if x10 < ((rd_L1 x5 x11).length : Int) then (if (rd (rd_L1 x5 x11) x10) = 0 then (laws_FnRows.l3 k x3 x4 x5 x9 x10 (wrap64 (x11 + 1))) else (some false)) else (none)) else (none)) else (none))) else (laws_FnRows.l1 k x3 x4 x5 x10 (wrap64 (x9 + 1)))
def laws_FnRows.l2 : Nat → List (List Int) → Int → List (List Int) → Int → Int → Int → Option (Bool)
 | 0, _, _, _, _, _, _ => none
 | k + 1, x3, x4, x5, x8, x9, x10 => if x10 < x4 then (if 0 ≤ x9 then (if x9 < (x5.length : Int) then (if 0 ≤ x10 then (if x10 < ((rd_L1 x5 x9).length : Int) then (if (rd (rd_L1 x5 x9) x10) = 0 then (laws_FnRows.l2 k x3 x4 x5 x8 x9 (wrap64 (x10 + 1))) else (laws_FnRows.j3 k x3 x4 x5 x8 x9 x10)) else (none)) else (none)) else (none)) else (none)) else (laws_FnRows.j3 k x3 x4 x5 x8 x9 x10)
end
def laws_FnRows.f (k : Nat) (l0 : List Int) : Option (Bool) := (laws_big.f l0).bind fun t266 => (if t266 = true then (some true) else ((spec_DrawReduceRows.f k l0).bind fun bt267 => ((impl_ReduceRows.f k bt267.1 bt267.2).bind fun t271 => ((impl_IsMatrix.f k bt267.1 bt267.2).bind fun t274 => ((spec_IsMatrix.f k bt267.1 bt267.2).bind fun t275 => (if (t274 != t275) = true then (some false) else ((impl_IsMatrix.f k bt267.1 bt267.2).bind fun t276 => (if t276 = true then (laws_FnRows.l0 k bt267.1 bt267.2 t271 0) else (some ((t271.length : Int) == 0))))))))))
set_option maxHeartbeats 8000000 in
set_option maxRecDepth 100000 in
theorem laws_FnRows.calls (k : Nat) (A0 : Option Addr) (c0 : Nat) (l0 : List Int) (r : Bool) (w : World) (hr0 : Kd.C (Kd.int .u8) w A0 l0.length l0) (hc0 : l0.length ≤ c0) (h : laws_FnRows.f k l0 = some r) :
 Calls Try.prog 6 #[.slice A0 l0.length c0] w fun e w' => e = .returned (.bool r) ∧ Below w.heap.size w w' := by
 have HR0:=aM hr0;have HC0:=aM hc0;clear hr0 hc0;have HB:=aM (Below.refl w.heap.size w);have H:((laws_big.f l0).bind fun t266=>(if t266=true then (some true) else ((spec_DrawReduceRows.f k l0).bind fun bt267=>((impl_ReduceRows.f k bt267.1 bt267.2).bind fun t271=>((impl_IsMatrix.f k bt267.1 bt267.2).bind fun t274=>((spec_IsMatrix.f k bt267.1 bt267.2).bind fun t275=>(if (t274 != t275)=true then (some false) else ((impl_IsMatrix.f k bt267.1 bt267.2).bind fun t276=>(if t276=true then (laws_FnRows.l0 k bt267.1 bt267.2 t271 0) else (some ((t271.length:Int) == 0)))))))))))=some r:=h;clear h;obtain ⟨t266,A2,H⟩:=bz H;by_cases c3:t266=true
 ·subst c3;replace H:=ifT H;obtain rfl:=Option.some.inj H;go_enter Try.func6,Try.ntmps6;go_wp2_with (first|((with_reducible refine gate_callee (f:=23) rfl ?_);refine gm (some 13) Try.func23 #[.slice A0 l0.length c0] ?_;(with_reducible refine (laws_big.calls _ _ l0 true _ ?side1 ?side2 A2.out).mono ?_);(case side1=>exact zc HR0.out);(case side2=>exact HC0.out);rintro e w' ⟨rfl,⟨nd,rfl⟩⟩;refine ⟨_,rfl,?_⟩));go_ret;exact ⟨by first|rfl|(simp [errW_none,errW_some]<;>rfl)|(simp [*,errW_none,errW_some]<;>rfl),zb HB.out⟩
 ·replace c3:=Bool.eq_false_iff.mpr c3;subst c3;replace H:=ifF H;obtain ⟨⟨t267,t268⟩,A4,H⟩:=bz H;dsimp only at H;obtain ⟨t271,A5,H⟩:=bz H;obtain ⟨t274,A6,H⟩:=bz H;obtain ⟨t275,A7,H⟩:=bz H;by_cases c8:(t274 != t275)=true
  ·rw [if_pos c8] at H;have c8b0:(t274 != t275)=true:=c8;(try (have c8b1:decide (t274=t275)=false:=by simpa using c8));(try (have c8b2:(t274 == t275)=false:=by simpa using c8));(try (have c8b3:¬(t274=t275):=by simpa using c8));clear c8;obtain rfl:=Option.some.inj H;go_enter Try.func6,Try.ntmps6;go_wp2_with (first|((with_reducible refine gate_callee (f:=23) rfl ?_);refine gm (some 13) Try.func23 #[.slice A0 l0.length c0] ?_;(with_reducible refine (laws_big.calls _ _ l0 false _ ?side1 ?side2 A2.out).mono ?_);(case side1=>exact zc HR0.out);(case side2=>exact HC0.out);rintro e w' ⟨rfl,⟨nd,rfl⟩⟩;refine ⟨_,rfl,?_⟩)|((with_reducible refine gate_callee (f:=38) rfl ?_);refine gm (some 16) Try.func38 #[.slice A0 l0.length c0] ?_;(with_reducible refine (spec_DrawReduceRows.calls k _ _ l0 t267 t268 _ ?side1 ?side2 A4.out).mono ?_);(case side1=>exact zc HR0.out);(case side2=>exact HC0.out);rintro e w9 ⟨v269,rfl,ho0,hb⟩;refine ⟨_,rfl,?_⟩;have HO270:=aM (Kd.S_lower ho0 (below_size (zb HB.out)));replace HB:=aM (below_step (zb HB.out) hb);(try clear hb);(try clear hb2);(try clear hk);(try clear hi);(try clear ho0);obtain ⟨Ao10,co10,eo10⟩:=Kd.S_slice HO270.out;subst eo10)|((with_reducible refine gate_callee (f:=39) rfl ?_);refine gm (some 21) Try.func39 #[.slice Ao10 t267.length co10,.int .i64 t268] ?_;(with_reducible refine (impl_ReduceRows.calls k _ _ t267 t268 t271 _ ?side1 ?side2 A5.out).mono ?_);(case side1=>exact zc (Kd.S_reads' HO270.out).2.2);(case side2=>exact (Kd.S_reads' HO270.out).2.1);rintro e w11 ⟨v272,rfl,ho0,hb⟩;refine ⟨_,rfl,?_⟩;have HO273:=aM (Kd.S_lower (Kd.S_new' ho0 (Kd.S_lt (by (with_reducible repeat (first|apply Kd.S_alloc|apply Kd.S_drewN|apply Kd.S_drew));exact HO270.out))) (below_size (zb HB.out)));replace HO270:=aM (Kd.S_elder' (by (with_reducible repeat (first|apply Kd.S_alloc|apply Kd.S_drewN|apply Kd.S_drew));exact HO270.out) (Kd.S_base ho0) hb);replace HB:=aM (below_step (zb HB.out) hb);(try clear hb);(try clear hb2);(try clear hk);(try clear hi);(try clear ho0))|((with_reducible refine gate_callee (f:=40) rfl ?_);refine gm (some 24) Try.func40 #[.slice Ao10 t267.length co10,.int .i64 t268] ?_;(with_reducible refine (impl_IsMatrix.calls k _ _ t267 t268 t274 _ ?side1 ?side2 A6.out).mono ?_);(case side1=>exact zc (Kd.S_reads' HO270.out).2.2);(case side2=>exact (Kd.S_reads' HO270.out).2.1);rintro e w' ⟨rfl,⟨nd,rfl⟩⟩;refine ⟨_,rfl,?_⟩)|((with_reducible refine gate_callee (f:=41) rfl ?_);refine gm (some 27) Try.func41 #[.slice Ao10 t267.length co10,.int .i64 t268] ?_;(with_reducible refine (spec_IsMatrix.calls k _ _ t267 t268 t275 _ ?side1 ?side2 A7.out).mono ?_);(case side1=>exact zc (Kd.S_reads' HO270.out).2.2);(case side2=>exact (Kd.S_reads' HO270.out).2.1);rintro e w' ⟨rfl,⟨nd,rfl⟩⟩;refine ⟨_,rfl,?_⟩));go_ret;exact ⟨by first|rfl|(simp [errW_none,errW_some]<;>rfl)|(simp [*,errW_none,errW_some]<;>rfl),zb HB.out⟩
  ·rw [if_neg c8] at H;have c8b0:(t274 != t275)=false:=(by simpa using c8);(try (have c8b1:decide (t274=t275)=true:=by simpa using c8));(try (have c8b2:(t274 == t275)=true:=by simpa using c8));clear c8;obtain ⟨t276,A12,H⟩:=bz H;by_cases c13:t276=true
   ·subst c13;replace H:=ifT H;have H':=aM H;clear H;go_enter Try.func6,Try.ntmps6;go_wp2_with (first|((with_reducible refine gate_callee (f:=23) rfl ?_);refine gm (some 13) Try.func23 #[.slice A0 l0.length c0] ?_;(with_reducible refine (laws_big.calls _ _ l0 false _ ?side1 ?side2 A2.out).mono ?_);(case side1=>exact zc HR0.out);(case side2=>exact HC0.out);rintro e w' ⟨rfl,⟨nd,rfl⟩⟩;refine ⟨_,rfl,?_⟩)|((with_reducible refine gate_callee (f:=38) rfl ?_);refine gm (some 16) Try.func38 #[.slice A0 l0.length c0] ?_;(with_reducible refine (spec_DrawReduceRows.calls k _ _ l0 t267 t268 _ ?side1 ?side2 A4.out).mono ?_);(case side1=>exact zc HR0.out);(case side2=>exact HC0.out);rintro e w14 ⟨v269,rfl,ho0,hb⟩;refine ⟨_,rfl,?_⟩;have HO270:=aM (Kd.S_lower ho0 (below_size (zb HB.out)));replace HB:=aM (below_step (zb HB.out) hb);(try clear hb);(try clear hb2);(try clear hk);(try clear hi);(try clear ho0);obtain ⟨Ao15,co15,eo15⟩:=Kd.S_slice HO270.out;subst eo15)|((with_reducible refine gate_callee (f:=39) rfl ?_);refine gm (some 21) Try.func39 #[.slice Ao15 t267.length co15,.int .i64 t268] ?_;(with_reducible refine (impl_ReduceRows.calls k _ _ t267 t268 t271 _ ?side1 ?side2 A5.out).mono ?_);(case side1=>exact zc (Kd.S_reads' HO270.out).2.2);(case side2=>exact (Kd.S_reads' HO270.out).2.1);rintro e w16 ⟨v272,rfl,ho0,hb⟩;refine ⟨_,rfl,?_⟩;have HO273:=aM (Kd.S_lower (Kd.S_new' ho0 (Kd.S_lt (by (with_reducible repeat (first|apply Kd.S_alloc|apply Kd.S_drewN|apply Kd.S_drew));exact HO270.out))) (below_size (zb HB.out)));replace HO270:=aM (Kd.S_elder' (by (with_reducible repeat (first|apply Kd.S_alloc|apply Kd.S_drewN|apply Kd.S_drew));exact HO270.out) (Kd.S_base ho0) hb);replace HB:=aM (below_step (zb HB.out) hb);(try clear hb);(try clear hb2);(try clear hk);(try clear hi);(try clear ho0))|((with_reducible refine gate_callee (f:=40) rfl ?_);refine gm (some 24) Try.func40 #[.slice Ao15 t267.length co15,.int .i64 t268] ?_;(with_reducible refine (impl_IsMatrix.calls k _ _ t267 t268 t274 _ ?side1 ?side2 A6.out).mono ?_);(case side1=>exact zc (Kd.S_reads' HO270.out).2.2);(case side2=>exact (Kd.S_reads' HO270.out).2.1);rintro e w' ⟨rfl,⟨nd,rfl⟩⟩;refine ⟨_,rfl,?_⟩)|((with_reducible refine gate_callee (f:=41) rfl ?_);refine gm (some 27) Try.func41 #[.slice Ao15 t267.length co15,.int .i64 t268] ?_;(with_reducible refine (spec_IsMatrix.calls k _ _ t267 t268 t275 _ ?side1 ?side2 A7.out).mono ?_);(case side1=>exact zc (Kd.S_reads' HO270.out).2.2);(case side2=>exact (Kd.S_reads' HO270.out).2.1);rintro e w' ⟨rfl,⟨nd,rfl⟩⟩;refine ⟨_,rfl,?_⟩)|((with_reducible refine gate_callee (f:=40) rfl ?_);refine gm (some 31) Try.func40 #[.slice Ao15 t267.length co15,.int .i64 t268] ?_;(with_reducible refine (impl_IsMatrix.calls k _ _ t267 t268 true _ ?side1 ?side2 A12.out).mono ?_);(case side1=>exact zc (Kd.S_reads' HO270.out).2.2);(case side2=>exact (Kd.S_reads' HO270.out).2.1);rintro e w' ⟨rfl,⟨nd,rfl⟩⟩;refine ⟨_,rfl,?_⟩));go_loopg [6] k (fun kq v6 w'=>∃(x6_1:Int),v6 = .int .i64 x6_1∧Aside0 (laws_FnRows.l0 kq t267 t268 t271 x6_1=some r)∧Aside0 (kq≤k)∧Aside0 (Kd.S (Kd.slice 3 (Kd.int .i64)) 23 w' w.heap.size (fun k_=>some k_≠(v272:Value).ownBlock) (.slice Ao15 t267.length co15) t267)∧Aside0 (Kd.S (Kd.slice 3 (Kd.int .i64)) 23 w' w.heap.size (fun k_=>some k_≠((.slice Ao15 t267.length co15):Value).ownBlock) v272 t271)∧Aside0 (Below w.heap.size w w'));(case atStart=>exact ⟨(0),zt,H',⟨Nat.le_refl _⟩,⟨by (with_reducible repeat (first|apply Kd.S_alloc|apply Kd.S_drewN|apply Kd.S_drew));exact Kd.S_mono HO270.out (fun _ hk=>hk.2)⟩,⟨by (with_reducible repeat (first|apply Kd.S_alloc|apply Kd.S_drewN|apply Kd.S_drew));exact Kd.S_mono HO273.out (fun _ hk=>hk.2)⟩,⟨zb HB.out⟩⟩)
    case round=>
     clear H';(try clear c1);(try clear c2);(try clear p2);(try clear c3);(try clear c4);(try clear c6);(try clear c8);(try clear c8b0);(try clear c8b1);(try clear c8b2);(try clear c13);obtain ⟨x6_1,rfl,HA,HK1,HO_3,HO_5,HB⟩:=hrel;cases gk with
     | zero=>exact absurd HA.out (by simp [laws_FnRows.l0])
     | succ k1=>
      have H:=HA.out;clear HA;simp only [laws_FnRows.l0] at H;by_cases c17:x6_1<(t267.length:Int)
      ·rw [if_pos c17] at H;have c17b0:decide (x6_1<(t267.length:Int))=true:=decide_eq_true c17;clear c17;obtain ⟨c18b0,H⟩:=iN H;obtain ⟨t278,A19,H⟩:=bz H;obtain ⟨t282,A20,H⟩:=bz H;by_cases c21:t282=true
       ·subst c21;replace H:=ifT H;by_cases c22:(t278.length:Int) > 0
        ·rw [if_pos c22] at H;have c22b0:decide (0<(t278.length:Int))=true:=decide_eq_true c22;have c22b1:decide (0<t278.length)=true:=decide_eq_true (by omega);clear c22;obtain rfl:=Option.some.inj H;have p277:0≤(x6_1:Int):=zd;have q277:x6_1<(t267.length:Int):=zd;obtain ⟨ad277,A277_0,c277_0,e277,hx277_0,hl277_0,hi277_0⟩:=at_L1 (Kd.S_reads' HO_3.out).2.2 x6_1 p277 q277;cases e277;obtain ⟨ce277,hce277,hMe277,hcc277⟩:=Kd.S_get HO_3.out [] x6_1 p277 (by first|exact q277|exact zd|(have e_:=(Kd.S_reads' HO_3.out).1;omega));obtain ⟨ve277_0,rfl,ge277_0⟩:=hMe277;have hv277_0:=hcc277 0 _ rfl;rw [Nat.add_zero,show ((Kd.slice 3 (Kd.int .i64))).sz=1 from rfl,Nat.mul_one] at hv277_0;replace hv277_0:=Option.some.inj (hv277_0.symm.trans hx277_0);rw [hv277_0] at ge277_0;have HL277_0:=aM (show Kd.R (Kd.int .i64) 3 _ _ _ _ (rd_L1 t267 x6_1) from ge277_0);clear hv277_0 ge277_0 hcc277 hce277;have HR277_0:=aM hi277_0;have HC277_0:=aM hl277_0;clear hi277_0 hl277_0;replace p277:=eq_true p277;replace q277:=eq_true q277;go_wp2_with (first|((with_reducible refine gate_callee (f:=42) rfl ?_);refine gm (some 47) Try.func42 #[.slice (some ad277) t267.length co15,.slice A277_0 (rd_L1 t267 x6_1).length c277_0] ?_;(with_reducible refine (impl_NullVector.calls k1 _ _ t267 _ _ (rd_L1 t267 x6_1) t278 _ ?side1 ?side2 ?side3 ?side4 A19.out).mono ?_);(case side1=>exact zc (Kd.S_reads' HO_3.out).2.2);(case side2=>exact (Kd.S_reads' HO_3.out).2.1);(case side3=>exact zc HR277_0.out);(case side4=>exact HC277_0.out);rintro e w23 ⟨v279,rfl,ho0,hb⟩;refine ⟨_,rfl,?_⟩;replace HO_3:=aM (Kd.S_elder' (by (with_reducible repeat (first|apply Kd.S_alloc|apply Kd.S_drewN|apply Kd.S_drew));exact HO_3.out) (Kd.R_base ho0) hb);replace HO_5:=aM (Kd.S_elder' (by (with_reducible repeat (first|apply Kd.S_alloc|apply Kd.S_drewN|apply Kd.S_drew));exact HO_5.out) (Kd.R_base ho0) hb);have HO280:=aM (Kd.R_lower (Kd.R_new' ho0 (Kd.R_lt (zr HL277_0.out))) (below_size (zb HB.out)));replace HL277_0:=aM (Kd.R_elder' (zr HL277_0.out) (Kd.R_base ho0) hb);replace HR277_0:=aM (Kd.C_below (zc HR277_0.out) hb);replace HB:=aM (below_step (zb HB.out) hb);(try clear hb);(try clear hb2);(try clear hk);(try clear hi);(try clear ho0);have p281:0≤(x6_1:Int):=zd;have q281:x6_1<(t267.length:Int):=zd;obtain ⟨ad281,A281_0,c281_0,e281,hx281_0,hl281_0,hi281_0⟩:=at_L1 (Kd.S_reads' HO_3.out).2.2 x6_1 p281 q281;obtain rfl:ad277=ad281:=(by injection e281);obtain ⟨ce281,hce281,hMe281,hcc281⟩:=Kd.S_get HO_3.out [] x6_1 p281 (by first|exact q281|exact zd|(have e_:=(Kd.S_reads' HO_3.out).1;omega));obtain ⟨ve281_0,rfl,ge281_0⟩:=hMe281;have hv281_0:=hcc281 0 _ rfl;rw [Nat.add_zero,show ((Kd.slice 3 (Kd.int .i64))).sz=1 from rfl,Nat.mul_one] at hv281_0;replace hv281_0:=Option.some.inj (hv281_0.symm.trans hx281_0);rw [hv281_0] at ge281_0;have HL281_0:=aM (show Kd.R (Kd.int .i64) 3 _ _ _ _ (rd_L1 t267 x6_1) from ge281_0);clear hv281_0 ge281_0 hcc281 hce281;have HR281_0:=aM hi281_0;have HC281_0:=aM hl281_0;clear hi281_0 hl281_0;replace p281:=eq_true p281;replace q281:=eq_true q281)|((with_reducible refine gate_callee (f:=30) rfl ?_);refine gm (some 53) Try.func30 #[.slice (some ad277) t267.length co15,.slice A281_0 (rd_L1 t267 x6_1).length c281_0] ?_;(with_reducible refine (impl_IsInSpan.calls k1 _ _ t267 _ _ (rd_L1 t267 x6_1) true _ ?side1 ?side2 ?side3 ?side4 A20.out).mono ?_);(case side1=>exact zc (Kd.S_reads' HO_3.out).2.2);(case side2=>exact (Kd.S_reads' HO_3.out).2.1);(case side3=>exact zc HR281_0.out);(case side4=>exact HC281_0.out);rintro e w24 ⟨rfl,hb⟩;refine ⟨_,rfl,?_⟩;replace HO_3:=aM (Kd.S_below (by (with_reducible repeat (first|apply Kd.S_alloc|apply Kd.S_drewN|apply Kd.S_drew));exact HO_3.out) hb);replace HO_5:=aM (Kd.S_below (by (with_reducible repeat (first|apply Kd.S_alloc|apply Kd.S_drewN|apply Kd.S_drew));exact HO_5.out) hb);replace HL277_0:=aM (Kd.R_below (zr HL277_0.out) hb);replace HO280:=aM (Kd.R_below (zr HO280.out) hb);replace HL281_0:=aM (Kd.R_below (zr HL281_0.out) hb);replace HR277_0:=aM (Kd.C_below (zc HR277_0.out) hb);replace HR281_0:=aM (Kd.C_below (zc HR281_0.out) hb);replace HB:=aM (below_step (zb HB.out) hb);(try clear hb);(try clear hb2);(try clear hk);(try clear hi);obtain ⟨Ao25,co25,eo25⟩:=Kd.R_slice HO280.out;subst eo25));go_ret;exact ⟨by first|rfl|(simp [errW_none,errW_some]<;>rfl)|(simp [*,errW_none,errW_some]<;>rfl),zb HB.out⟩
        ·rw [if_neg c22] at H;have c22b0:decide (0<(t278.length:Int))=false:=decide_eq_false c22;have c22b1:decide (0<t278.length)=false:=decide_eq_false (by omega);clear c22;have H':=aM H;clear H;have p277:0≤(x6_1:Int):=zd;have q277:x6_1<(t267.length:Int):=zd;obtain ⟨ad277,A277_0,c277_0,e277,hx277_0,hl277_0,hi277_0⟩:=at_L1 (Kd.S_reads' HO_3.out).2.2 x6_1 p277 q277;cases e277;obtain ⟨ce277,hce277,hMe277,hcc277⟩:=Kd.S_get HO_3.out [] x6_1 p277 (by first|exact q277|exact zd|(have e_:=(Kd.S_reads' HO_3.out).1;omega));obtain ⟨ve277_0,rfl,ge277_0⟩:=hMe277;have hv277_0:=hcc277 0 _ rfl;rw [Nat.add_zero,show ((Kd.slice 3 (Kd.int .i64))).sz=1 from rfl,Nat.mul_one] at hv277_0;replace hv277_0:=Option.some.inj (hv277_0.symm.trans hx277_0);rw [hv277_0] at ge277_0;have HL277_0:=aM (show Kd.R (Kd.int .i64) 3 _ _ _ _ (rd_L1 t267 x6_1) from ge277_0);clear hv277_0 ge277_0 hcc277 hce277;have HR277_0:=aM hi277_0;have HC277_0:=aM hl277_0;clear hi277_0 hl277_0;replace p277:=eq_true p277;replace q277:=eq_true q277;go_wp2_with (first|((with_reducible refine gate_callee (f:=42) rfl ?_);refine gm (some 47) Try.func42 #[.slice (some ad277) t267.length co15,.slice A277_0 (rd_L1 t267 x6_1).length c277_0] ?_;(with_reducible refine (impl_NullVector.calls k1 _ _ t267 _ _ (rd_L1 t267 x6_1) t278 _ ?side1 ?side2 ?side3 ?side4 A19.out).mono ?_);(case side1=>exact zc (Kd.S_reads' HO_3.out).2.2);(case side2=>exact (Kd.S_reads' HO_3.out).2.1);(case side3=>exact zc HR277_0.out);(case side4=>exact HC277_0.out);rintro e w26 ⟨v279,rfl,ho0,hb⟩;refine ⟨_,rfl,?_⟩;replace HO_3:=aM (Kd.S_elder' (by (with_reducible repeat (first|apply Kd.S_alloc|apply Kd.S_drewN|apply Kd.S_drew));exact HO_3.out) (Kd.R_base ho0) hb);replace HO_5:=aM (Kd.S_elder' (by (with_reducible repeat (first|apply Kd.S_alloc|apply Kd.S_drewN|apply Kd.S_drew));exact HO_5.out) (Kd.R_base ho0) hb);have HO280:=aM (Kd.R_lower (Kd.R_new' ho0 (Kd.R_lt (zr HL277_0.out))) (below_size (zb HB.out)));replace HL277_0:=aM (Kd.R_elder' (zr HL277_0.out) (Kd.R_base ho0) hb);replace HR277_0:=aM (Kd.C_below (zc HR277_0.out) hb);replace HB:=aM (below_step (zb HB.out) hb);(try clear hb);(try clear hb2);(try clear hk);(try clear hi);(try clear ho0);have p281:0≤(x6_1:Int):=zd;have q281:x6_1<(t267.length:Int):=zd;obtain ⟨ad281,A281_0,c281_0,e281,hx281_0,hl281_0,hi281_0⟩:=at_L1 (Kd.S_reads' HO_3.out).2.2 x6_1 p281 q281;obtain rfl:ad277=ad281:=(by injection e281);obtain ⟨ce281,hce281,hMe281,hcc281⟩:=Kd.S_get HO_3.out [] x6_1 p281 (by first|exact q281|exact zd|(have e_:=(Kd.S_reads' HO_3.out).1;omega));obtain ⟨ve281_0,rfl,ge281_0⟩:=hMe281;have hv281_0:=hcc281 0 _ rfl;rw [Nat.add_zero,show ((Kd.slice 3 (Kd.int .i64))).sz=1 from rfl,Nat.mul_one] at hv281_0;replace hv281_0:=Option.some.inj (hv281_0.symm.trans hx281_0);rw [hv281_0] at ge281_0;have HL281_0:=aM (show Kd.R (Kd.int .i64) 3 _ _ _ _ (rd_L1 t267 x6_1) from ge281_0);clear hv281_0 ge281_0 hcc281 hce281;have HR281_0:=aM hi281_0;have HC281_0:=aM hl281_0;clear hi281_0 hl281_0;replace p281:=eq_true p281;replace q281:=eq_true q281)|((with_reducible refine gate_callee (f:=30) rfl ?_);refine gm (some 53) Try.func30 #[.slice (some ad277) t267.length co15,.slice A281_0 (rd_L1 t267 x6_1).length c281_0] ?_;(with_reducible refine (impl_IsInSpan.calls k1 _ _ t267 _ _ (rd_L1 t267 x6_1) true _ ?side1 ?side2 ?side3 ?side4 A20.out).mono ?_);(case side1=>exact zc (Kd.S_reads' HO_3.out).2.2);(case side2=>exact (Kd.S_reads' HO_3.out).2.1);(case side3=>exact zc HR281_0.out);(case side4=>exact HC281_0.out);rintro e w27 ⟨rfl,hb⟩;refine ⟨_,rfl,?_⟩;replace HO_3:=aM (Kd.S_below (by (with_reducible repeat (first|apply Kd.S_alloc|apply Kd.S_drewN|apply Kd.S_drew));exact HO_3.out) hb);replace HO_5:=aM (Kd.S_below (by (with_reducible repeat (first|apply Kd.S_alloc|apply Kd.S_drewN|apply Kd.S_drew));exact HO_5.out) hb);replace HL277_0:=aM (Kd.R_below (zr HL277_0.out) hb);replace HO280:=aM (Kd.R_below (zr HO280.out) hb);replace HL281_0:=aM (Kd.R_below (zr HL281_0.out) hb);replace HR277_0:=aM (Kd.C_below (zc HR277_0.out) hb);replace HR281_0:=aM (Kd.C_below (zc HR281_0.out) hb);replace HB:=aM (below_step (zb HB.out) hb);(try clear hb);(try clear hb2);(try clear hk);(try clear hi);obtain ⟨Ao28,co28,eo28⟩:=Kd.R_slice HO280.out;subst eo28));go_roundg k1;(case measure=>have:=HK1.out;omega);(case rel=>exact ⟨(wrap64 (x6_1+1)),zt,H',⟨by have:=HK1.out;omega⟩,⟨by (with_reducible repeat (first|apply Kd.S_alloc|apply Kd.S_drewN|apply Kd.S_drew));exact Kd.S_mono HO_3.out (fun _ hk=>hk.1)⟩,⟨by (with_reducible repeat (first|apply Kd.S_alloc|apply Kd.S_drewN|apply Kd.S_drew));exact Kd.S_mono HO_5.out (fun _ hk=>hk.1)⟩,⟨zb HB.out⟩⟩)
       ·replace c21:=Bool.eq_false_iff.mpr c21;subst c21;replace H:=ifF H;obtain rfl:=Option.some.inj H;have p277:0≤(x6_1:Int):=zd;have q277:x6_1<(t267.length:Int):=zd;obtain ⟨ad277,A277_0,c277_0,e277,hx277_0,hl277_0,hi277_0⟩:=at_L1 (Kd.S_reads' HO_3.out).2.2 x6_1 p277 q277;cases e277;obtain ⟨ce277,hce277,hMe277,hcc277⟩:=Kd.S_get HO_3.out [] x6_1 p277 (by first|exact q277|exact zd|(have e_:=(Kd.S_reads' HO_3.out).1;omega));obtain ⟨ve277_0,rfl,ge277_0⟩:=hMe277;have hv277_0:=hcc277 0 _ rfl;rw [Nat.add_zero,show ((Kd.slice 3 (Kd.int .i64))).sz=1 from rfl,Nat.mul_one] at hv277_0;replace hv277_0:=Option.some.inj (hv277_0.symm.trans hx277_0);rw [hv277_0] at ge277_0;have HL277_0:=aM (show Kd.R (Kd.int .i64) 3 _ _ _ _ (rd_L1 t267 x6_1) from ge277_0);clear hv277_0 ge277_0 hcc277 hce277;have HR277_0:=aM hi277_0;have HC277_0:=aM hl277_0;clear hi277_0 hl277_0;replace p277:=eq_true p277;replace q277:=eq_true q277;go_wp2_with (first|((with_reducible refine gate_callee (f:=42) rfl ?_);refine gm (some 47) Try.func42 #[.slice (some ad277) t267.length co15,.slice A277_0 (rd_L1 t267 x6_1).length c277_0] ?_;(with_reducible refine (impl_NullVector.calls k1 _ _ t267 _ _ (rd_L1 t267 x6_1) t278 _ ?side1 ?side2 ?side3 ?side4 A19.out).mono ?_);(case side1=>exact zc (Kd.S_reads' HO_3.out).2.2);(case side2=>exact (Kd.S_reads' HO_3.out).2.1);(case side3=>exact zc HR277_0.out);(case side4=>exact HC277_0.out);rintro e w29 ⟨v279,rfl,ho0,hb⟩;refine ⟨_,rfl,?_⟩;replace HO_3:=aM (Kd.S_elder' (by (with_reducible repeat (first|apply Kd.S_alloc|apply Kd.S_drewN|apply Kd.S_drew));exact HO_3.out) (Kd.R_base ho0) hb);replace HO_5:=aM (Kd.S_elder' (by (with_reducible repeat (first|apply Kd.S_alloc|apply Kd.S_drewN|apply Kd.S_drew));exact HO_5.out) (Kd.R_base ho0) hb);have HO280:=aM (Kd.R_lower (Kd.R_new' ho0 (Kd.R_lt (zr HL277_0.out))) (below_size (zb HB.out)));replace HL277_0:=aM (Kd.R_elder' (zr HL277_0.out) (Kd.R_base ho0) hb);replace HR277_0:=aM (Kd.C_below (zc HR277_0.out) hb);replace HB:=aM (below_step (zb HB.out) hb);(try clear hb);(try clear hb2);(try clear hk);(try clear hi);(try clear ho0);have p281:0≤(x6_1:Int):=zd;have q281:x6_1<(t267.length:Int):=zd;obtain ⟨ad281,A281_0,c281_0,e281,hx281_0,hl281_0,hi281_0⟩:=at_L1 (Kd.S_reads' HO_3.out).2.2 x6_1 p281 q281;obtain rfl:ad277=ad281:=(by injection e281);obtain ⟨ce281,hce281,hMe281,hcc281⟩:=Kd.S_get HO_3.out [] x6_1 p281 (by first|exact q281|exact zd|(have e_:=(Kd.S_reads' HO_3.out).1;omega));obtain ⟨ve281_0,rfl,ge281_0⟩:=hMe281;have hv281_0:=hcc281 0 _ rfl;rw [Nat.add_zero,show ((Kd.slice 3 (Kd.int .i64))).sz=1 from rfl,Nat.mul_one] at hv281_0;replace hv281_0:=Option.some.inj (hv281_0.symm.trans hx281_0);rw [hv281_0] at ge281_0;have HL281_0:=aM (show Kd.R (Kd.int .i64) 3 _ _ _ _ (rd_L1 t267 x6_1) from ge281_0);clear hv281_0 ge281_0 hcc281 hce281;have HR281_0:=aM hi281_0;have HC281_0:=aM hl281_0;clear hi281_0 hl281_0;replace p281:=eq_true p281;replace q281:=eq_true q281)|((with_reducible refine gate_callee (f:=30) rfl ?_);refine gm (some 53) Try.func30 #[.slice (some ad277) t267.length co15,.slice A281_0 (rd_L1 t267 x6_1).length c281_0] ?_;(with_reducible refine (impl_IsInSpan.calls k1 _ _ t267 _ _ (rd_L1 t267 x6_1) false _ ?side1 ?side2 ?side3 ?side4 A20.out).mono ?_);(case side1=>exact zc (Kd.S_reads' HO_3.out).2.2);(case side2=>exact (Kd.S_reads' HO_3.out).2.1);(case side3=>exact zc HR281_0.out);(case side4=>exact HC281_0.out);rintro e w30 ⟨rfl,hb⟩;refine ⟨_,rfl,?_⟩;replace HO_3:=aM (Kd.S_below (by (with_reducible repeat (first|apply Kd.S_alloc|apply Kd.S_drewN|apply Kd.S_drew));exact HO_3.out) hb);replace HO_5:=aM (Kd.S_below (by (with_reducible repeat (first|apply Kd.S_alloc|apply Kd.S_drewN|apply Kd.S_drew));exact HO_5.out) hb);replace HL277_0:=aM (Kd.R_below (zr HL277_0.out) hb);replace HO280:=aM (Kd.R_below (zr HO280.out) hb);replace HL281_0:=aM (Kd.R_below (zr HL281_0.out) hb);replace HR277_0:=aM (Kd.C_below (zc HR277_0.out) hb);replace HR281_0:=aM (Kd.C_below (zc HR281_0.out) hb);replace HB:=aM (below_step (zb HB.out) hb);(try clear hb);(try clear hb2);(try clear hk);(try clear hi)));go_ret;exact ⟨by first|rfl|(simp [errW_none,errW_some]<;>rfl)|(simp [*,errW_none,errW_some]<;>rfl),zb HB.out⟩
      ·rw [if_neg c17] at H;have c17b0:decide (x6_1<(t267.length:Int))=false:=decide_eq_false c17;clear c17;have H':=aM H;clear H;go_wp2;go_loopg [8,9] k1 (fun kq v8 v9 w'=>∃(x8_2:Int) (x9_2:Int),v8 = .int .i64 x8_2∧v9 = .int .i64 x9_2∧Aside0 (laws_FnRows.l1 kq t267 t268 t271 x8_2 x9_2=some r)∧Aside0 (kq≤k1)∧Aside0 (Kd.S (Kd.slice 3 (Kd.int .i64)) 23 w' w.heap.size (fun k_=>some k_≠(v272:Value).ownBlock) (.slice Ao15 t267.length co15) t267)∧Aside0 (Kd.S (Kd.slice 3 (Kd.int .i64)) 23 w' w.heap.size (fun k_=>some k_≠((.slice Ao15 t267.length co15):Value).ownBlock) v272 t271)∧Aside0 (Below w.heap.size w w'));(case atStart=>exact ⟨((-1)),(0),zt,zt,H',⟨Nat.le_refl _⟩,⟨by (with_reducible repeat (first|apply Kd.S_alloc|apply Kd.S_drewN|apply Kd.S_drew));exact HO_3.out⟩,⟨by (with_reducible repeat (first|apply Kd.S_alloc|apply Kd.S_drewN|apply Kd.S_drew));exact HO_5.out⟩,⟨zb HB.out⟩⟩)
       case round=>
        clear H';(try clear c1);(try clear c2);(try clear p2);(try clear q2);(try clear hx2);(try clear c3);(try clear c4);(try clear c6);(try clear p6);(try clear c8);(try clear c8b0);(try clear c8b1);(try clear c8b2);(try clear c13);(try clear c17);(try clear c17b0);(try clear c18);(try clear c18b0);(try clear c21);(try clear c22);(try clear c22b0);(try clear c22b1);(try clear c23);(try clear c27);(try clear p27);(try clear q27);(try clear hx27);(try clear c28);(try clear p28);(try clear q28);(try clear hx28);(try clear c30);(try clear hx277_0);(try clear hx281_0);(try clear p2);(try clear p277);(try clear p281);(try clear q277);(try clear q281);obtain ⟨x8_2,x9_2,rfl,rfl,HA,HK2,HO_3,HO_5,HB⟩:=hrel;cases gk with
        | zero=>exact absurd HA.out (by simp [laws_FnRows.l1])
        | succ k2=>
         have H:=HA.out;clear HA;simp only [laws_FnRows.l1] at H;by_cases c31:x9_2<(t271.length:Int)
         ·rw [if_pos c31] at H;have c31b0:decide (x9_2<(t271.length:Int))=true:=decide_eq_true c31;clear c31;have HC32:=aM H;clear H;obtain ⟨Ao33,co33,eo33⟩:=Kd.S_slice HO_5.out;subst eo33;go_upto_block 4 with (fail)
          go_cut [10] (fun v10 wc=>∃(kq:Nat) (x10_31:Int),v10 = .int .i64 x10_31∧Aside0 (laws_FnRows.j3 kq t267 t268 t271 x8_2 x9_2 x10_31=some r)∧Aside0 (kq≤k2)∧Aside0 (Kd.S (Kd.slice 3 (Kd.int .i64)) 23 wc w.heap.size (fun k_=>some k_≠((.slice Ao33 t271.length co33):Value).ownBlock) (.slice Ao15 t267.length co15) t267)∧Aside0 (Kd.S (Kd.slice 3 (Kd.int .i64)) 23 wc w.heap.size (fun k_=>some k_≠((.slice Ao15 t267.length co15):Value).ownBlock) (.slice Ao33 t271.length co33) t271)∧Aside0 (Below w.heap.size w wc))
          case first=>
           have H:=HC32.out;clear HC32;have H':=aM H;clear H;go_wp2;go_loopg [10] k2 (fun kq v10 w'=>∃(x10_3:Int),v10 = .int .i64 x10_3∧Aside0 (laws_FnRows.l2 kq t267 t268 t271 x8_2 x9_2 x10_3=some r)∧Aside0 (kq≤k2)∧Aside0 (Kd.S (Kd.slice 3 (Kd.int .i64)) 23 w' w.heap.size (fun k_=>some k_≠((.slice Ao33 t271.length co33):Value).ownBlock) (.slice Ao15 t267.length co15) t267)∧Aside0 (Kd.S (Kd.slice 3 (Kd.int .i64)) 23 w' w.heap.size (fun k_=>some k_≠((.slice Ao15 t267.length co15):Value).ownBlock) (.slice Ao33 t271.length co33) t271)∧Aside0 (Below w.heap.size w w'));(case atStart=>exact ⟨(0),zt,H',⟨Nat.le_refl _⟩,⟨by (with_reducible repeat (first|apply Kd.S_alloc|apply Kd.S_drewN|apply Kd.S_drew));exact HO_3.out⟩,⟨by (with_reducible repeat (first|apply Kd.S_alloc|apply Kd.S_drewN|apply Kd.S_drew));exact HO_5.out⟩,⟨zb HB.out⟩⟩)
           case round=>
            clear H';(try clear c1);(try clear c2);(try clear p2);(try clear q2);(try clear hx2);(try clear c3);(try clear c4);(try clear c6);(try clear p6);(try clear c8);(try clear c8b0);(try clear c8b1);(try clear c8b2);(try clear c13);(try clear c17);(try clear c17b0);(try clear c18);(try clear c18b0);(try clear c21);(try clear c22);(try clear c22b0);(try clear c22b1);(try clear c23);(try clear c27);(try clear p27);(try clear q27);(try clear hx27);(try clear c28);(try clear p28);(try clear q28);(try clear hx28);(try clear c30);(try clear c31);(try clear c31b0);(try clear hx277_0);(try clear hx281_0);(try clear p2);(try clear p27);(try clear p277);(try clear p28);(try clear p281);(try clear p6);(try clear q2);(try clear q27);(try clear q277);(try clear q28);(try clear q281);obtain ⟨x10_3,rfl,HA,HK3,HO_3,HO_5,HB⟩:=hrel;cases gk with
            | zero=>exact absurd HA.out (by simp [laws_FnRows.l2])
            | succ k3=>
             have H:=HA.out;clear HA;simp only [laws_FnRows.l2] at H;by_cases c34:x10_3<t268
             ·rw [if_pos c34] at H;have c34b0:decide (x10_3<t268)=true:=decide_eq_true c34;clear c34;(first|rw [c34b0]|(simp only [i64_w,i32_w];rw [c34b0])|skip);obtain ⟨c35b0,H⟩:=iN H;obtain ⟨c36b0,H⟩:=iN H;obtain ⟨c37b0,H⟩:=iN H;obtain ⟨c38b0,H⟩:=iN H;by_cases c39:(rd (rd_L1 t271 x9_2) x10_3)=0
              ·rw [if_pos c39] at H;have c39b0:((rd (rd_L1 t271 x9_2) x10_3) == 0)=true:=beq_iff_eq.mpr c39;have c39b1:((rd (rd_L1 t271 x9_2) x10_3) != 0)=false:=bne_eq_false_iff_eq.mpr c39;clear c39;have H':=aM H;clear H;have p284:0≤(x9_2:Int):=zd;have q284:x9_2<(t271.length:Int):=zd;obtain ⟨ad284,A284_0,c284_0,e284,hx284_0,hl284_0,hi284_0⟩:=at_L1 (Kd.S_reads' HO_5.out).2.2 x9_2 p284 q284;cases e284;obtain ⟨ce284,hce284,hMe284,hcc284⟩:=Kd.S_get HO_5.out [] x9_2 p284 (by first|exact q284|exact zd|(have e_:=(Kd.S_reads' HO_5.out).1;omega));obtain ⟨ve284_0,rfl,ge284_0⟩:=hMe284;have hv284_0:=hcc284 0 _ rfl;rw [Nat.add_zero,show ((Kd.slice 3 (Kd.int .i64))).sz=1 from rfl,Nat.mul_one] at hv284_0;replace hv284_0:=Option.some.inj (hv284_0.symm.trans hx284_0);rw [hv284_0] at ge284_0;have HL284_0:=aM (show Kd.R (Kd.int .i64) 3 _ _ _ _ (rd_L1 t271 x9_2) from ge284_0);clear hv284_0 ge284_0 hcc284 hce284;have HR284_0:=aM hi284_0;have HC284_0:=aM hl284_0;clear hi284_0 hl284_0;replace p284:=eq_true p284;replace q284:=eq_true q284;have p285:0≤(x10_3:Int):=zd;have q285:x10_3<((rd_L1 t271 x9_2).length:Int):=zd;obtain ⟨ad285,e285,hx285_0⟩:=Kd.at_int (zc HR284_0.out) x10_3 p285 q285;cases e285;replace p285:=eq_true p285;replace q285:=eq_true q285;go_wp2;go_roundg k3;(case measure=>have:=HK1.out;have:=HK2.out;have:=HK3.out;omega);(case rel=>exact ⟨(wrap64 (x10_3+1)),zt,H',⟨by have:=HK1.out;have:=HK2.out;have:=HK3.out;omega⟩,⟨by (with_reducible repeat (first|apply Kd.S_alloc|apply Kd.S_drewN|apply Kd.S_drew));exact HO_3.out⟩,⟨by (with_reducible repeat (first|apply Kd.S_alloc|apply Kd.S_drewN|apply Kd.S_drew));exact HO_5.out⟩,⟨zb HB.out⟩⟩)
              ·rw [if_neg c39] at H;have c39b0:((rd (rd_L1 t271 x9_2) x10_3) == 0)=false:=beq_eq_false_iff_ne.mpr c39;have c39b1:((rd (rd_L1 t271 x9_2) x10_3) != 0)=true:=bne_iff_ne.mpr c39;have H':=aM H;clear H;have p284:0≤(x9_2:Int):=zd;have q284:x9_2<(t271.length:Int):=zd;obtain ⟨ad284,A284_0,c284_0,e284,hx284_0,hl284_0,hi284_0⟩:=at_L1 (Kd.S_reads' HO_5.out).2.2 x9_2 p284 q284;cases e284;obtain ⟨ce284,hce284,hMe284,hcc284⟩:=Kd.S_get HO_5.out [] x9_2 p284 (by first|exact q284|exact zd|(have e_:=(Kd.S_reads' HO_5.out).1;omega));obtain ⟨ve284_0,rfl,ge284_0⟩:=hMe284;have hv284_0:=hcc284 0 _ rfl;rw [Nat.add_zero,show ((Kd.slice 3 (Kd.int .i64))).sz=1 from rfl,Nat.mul_one] at hv284_0;replace hv284_0:=Option.some.inj (hv284_0.symm.trans hx284_0);rw [hv284_0] at ge284_0;have HL284_0:=aM (show Kd.R (Kd.int .i64) 3 _ _ _ _ (rd_L1 t271 x9_2) from ge284_0);clear hv284_0 ge284_0 hcc284 hce284;have HR284_0:=aM hi284_0;have HC284_0:=aM hl284_0;clear hi284_0 hl284_0;replace p284:=eq_true p284;replace q284:=eq_true q284;have p285:0≤(x10_3:Int):=zd;have q285:x10_3<((rd_L1 t271 x9_2).length:Int):=zd;obtain ⟨ad285,e285,hx285_0⟩:=Kd.at_int (zc HR284_0.out) x10_3 p285 q285;cases e285;replace p285:=eq_true p285;replace q285:=eq_true q285;go_wp2;go_meet;(case rel=>exact ⟨_,(x10_3),zt,H',⟨by have:=HK1.out;have:=HK2.out;have:=HK3.out;first|omega|exact Nat.le_refl _⟩,⟨by (with_reducible repeat (first|apply Kd.S_alloc|apply Kd.S_drewN|apply Kd.S_drew));exact HO_3.out⟩,⟨by (with_reducible repeat (first|apply Kd.S_alloc|apply Kd.S_drewN|apply Kd.S_drew));exact HO_5.out⟩,⟨zb HB.out⟩⟩)
             ·rw [if_neg c34] at H;have c34b0:decide (x10_3<t268)=false:=decide_eq_false c34;clear c34;(first|rw [c34b0]|(simp only [i64_w,i32_w];rw [c34b0])|skip);have H':=aM H;clear H;go_wp2;go_meet;(case rel=>exact ⟨_,(x10_3),zt,H',⟨by have:=HK1.out;have:=HK2.out;have:=HK3.out;first|omega|exact Nat.le_refl _⟩,⟨by (with_reducible repeat (first|apply Kd.S_alloc|apply Kd.S_drewN|apply Kd.S_drew));exact HO_3.out⟩,⟨by (with_reducible repeat (first|apply Kd.S_alloc|apply Kd.S_drewN|apply Kd.S_drew));exact HO_5.out⟩,⟨zb HB.out⟩⟩)
          case rest=>
           clear HC32;(try clear c1);(try clear c2);(try clear p2);(try clear q2);(try clear hx2);(try clear c3);(try clear c4);(try clear c6);(try clear p6);(try clear c8);(try clear c8b0);(try clear c8b1);(try clear c8b2);(try clear c13);(try clear c17);(try clear c17b0);(try clear c18);(try clear c18b0);(try clear c21);(try clear c22);(try clear c22b0);(try clear c22b1);(try clear c23);(try clear c27);(try clear p27);(try clear q27);(try clear hx27);(try clear c28);(try clear p28);(try clear q28);(try clear hx28);(try clear c30);(try clear c31);(try clear c31b0);(try clear c34);(try clear c34b0);(try clear c35);(try clear c35b0);(try clear c36);(try clear c36b0);(try clear c37);(try clear c37b0);(try clear c38);(try clear c38b0);(try clear c39);(try clear c39b0);(try clear c39b1);(try clear hx277_0);(try clear hx281_0);(try clear hx284_0);(try clear hx285_0);(try clear p2);(try clear p27);(try clear p277);(try clear p28);(try clear p281);(try clear p284);(try clear p285);(try clear p6);(try clear q2);(try clear q27);(try clear q277);(try clear q28);(try clear q281);(try clear q284);(try clear q285);obtain ⟨kq,x10_31,rfl,HA,HJ31,HO_3,HO_5,HB⟩:=hcut;cases kq with
           | zero=>exact absurd HA.out (by simp [laws_FnRows.j3])
           | succ kj31=>
            have H:=HA.out;clear HA;simp only [laws_FnRows.j3] at H;have HC40:=aM H;clear H;go_upto_region 22 with (fail)
            go_cut [98] (fun v98 wc=>∃(kq:Nat) (x98_39:Bool),v98 = .bool x98_39∧Aside0 (laws_FnRows.j4 kq t267 t268 t271 x9_2 x10_31 x98_39=some r)∧Aside0 (kq≤kj31)∧Aside0 (Kd.S (Kd.slice 3 (Kd.int .i64)) 23 wc w.heap.size (fun k_=>some k_≠((.slice Ao33 t271.length co33):Value).ownBlock) (.slice Ao15 t267.length co15) t267)∧Aside0 (Kd.S (Kd.slice 3 (Kd.int .i64)) 23 wc w.heap.size (fun k_=>some k_≠((.slice Ao15 t267.length co15):Value).ownBlock) (.slice Ao33 t271.length co33) t271)∧Aside0 (Below w.heap.size w wc))
            case first=>
             have H:=HC40.out;clear HC40;by_cases c41:x10_31=t268
             ·rw [if_pos c41] at H;have c41b0:(x10_31 == t268)=true:=beq_iff_eq.mpr c41;have c41b1:(x10_31 != t268)=false:=bne_eq_false_iff_eq.mpr c41;clear c41;(first|rw [c41b0]|(simp only [i64_w,i32_w];rw [c41b0])|skip);have H':=aM H;clear H;go_wp2;go_meet;(case rel=>exact ⟨_,(true),zt,H',⟨by have:=HK1.out;have:=HK2.out;have:=HJ31.out;first|omega|exact Nat.le_refl _⟩,⟨by (with_reducible repeat (first|apply Kd.S_alloc|apply Kd.S_drewN|apply Kd.S_drew));exact HO_3.out⟩,⟨by (with_reducible repeat (first|apply Kd.S_alloc|apply Kd.S_drewN|apply Kd.S_drew));exact HO_5.out⟩,⟨zb HB.out⟩⟩)
             ·rw [if_neg c41] at H;have c41b0:(x10_31 == t268)=false:=beq_eq_false_iff_ne.mpr c41;have c41b1:(x10_31 != t268)=true:=bne_iff_ne.mpr c41;(first|rw [c41b0]|(simp only [i64_w,i32_w];rw [c41b0])|skip);by_cases c42:x10_31≤x8_2
              ·rw [if_pos c42] at H;have c42b0:decide (x10_31≤x8_2)=true:=decide_eq_true c42;clear c42;have H':=aM H;clear H;go_wp2;go_meet;(case rel=>exact ⟨_,(true),zt,H',⟨by have:=HK1.out;have:=HK2.out;have:=HJ31.out;first|omega|exact Nat.le_refl _⟩,⟨by (with_reducible repeat (first|apply Kd.S_alloc|apply Kd.S_drewN|apply Kd.S_drew));exact HO_3.out⟩,⟨by (with_reducible repeat (first|apply Kd.S_alloc|apply Kd.S_drewN|apply Kd.S_drew));exact HO_5.out⟩,⟨zb HB.out⟩⟩)
              ·rw [if_neg c42] at H;have c42b0:decide (x10_31≤x8_2)=false:=decide_eq_false c42;clear c42;obtain ⟨c43b0,H⟩:=iN H;obtain ⟨c44b0,H⟩:=iN H;obtain ⟨c45b0,H⟩:=iN H;obtain ⟨c46b0,H⟩:=iN H;have H':=aM H;clear H;have p286:0≤(x9_2:Int):=zd;have q286:x9_2<(t271.length:Int):=zd;obtain ⟨ad286,A286_0,c286_0,e286,hx286_0,hl286_0,hi286_0⟩:=at_L1 (Kd.S_reads' HO_5.out).2.2 x9_2 p286 q286;cases e286;obtain ⟨ce286,hce286,hMe286,hcc286⟩:=Kd.S_get HO_5.out [] x9_2 p286 (by first|exact q286|exact zd|(have e_:=(Kd.S_reads' HO_5.out).1;omega));obtain ⟨ve286_0,rfl,ge286_0⟩:=hMe286;have hv286_0:=hcc286 0 _ rfl;rw [Nat.add_zero,show ((Kd.slice 3 (Kd.int .i64))).sz=1 from rfl,Nat.mul_one] at hv286_0;replace hv286_0:=Option.some.inj (hv286_0.symm.trans hx286_0);rw [hv286_0] at ge286_0;have HL286_0:=aM (show Kd.R (Kd.int .i64) 3 _ _ _ _ (rd_L1 t271 x9_2) from ge286_0);clear hv286_0 ge286_0 hcc286 hce286;have HR286_0:=aM hi286_0;have HC286_0:=aM hl286_0;clear hi286_0 hl286_0;replace p286:=eq_true p286;replace q286:=eq_true q286;have p287:0≤(x10_31:Int):=zd;have q287:x10_31<((rd_L1 t271 x9_2).length:Int):=zd;obtain ⟨ad287,e287,hx287_0⟩:=Kd.at_int (zc HR286_0.out) x10_31 p287 q287;cases e287;replace p287:=eq_true p287;replace q287:=eq_true q287;go_wp2;go_meet;(case rel=>exact ⟨_,(decide ((rd (rd_L1 t271 x9_2) x10_31)<0)),zt,H',⟨by have:=HK1.out;have:=HK2.out;have:=HJ31.out;first|omega|exact Nat.le_refl _⟩,⟨by (with_reducible repeat (first|apply Kd.S_alloc|apply Kd.S_drewN|apply Kd.S_drew));exact HO_3.out⟩,⟨by (with_reducible repeat (first|apply Kd.S_alloc|apply Kd.S_drewN|apply Kd.S_drew));exact HO_5.out⟩,⟨zb HB.out⟩⟩)
            case rest=>
             clear HC40;(try clear c1);(try clear c2);(try clear p2);(try clear q2);(try clear hx2);(try clear c3);(try clear c4);(try clear c6);(try clear p6);(try clear c8);(try clear c8b0);(try clear c8b1);(try clear c8b2);(try clear c13);(try clear c17);(try clear c17b0);(try clear c18);(try clear c18b0);(try clear c21);(try clear c22);(try clear c22b0);(try clear c22b1);(try clear c23);(try clear c27);(try clear p27);(try clear q27);(try clear hx27);(try clear c28);(try clear p28);(try clear q28);(try clear hx28);(try clear c30);(try clear c31);(try clear c31b0);(try clear c34);(try clear c34b0);(try clear c35);(try clear c35b0);(try clear c36);(try clear c36b0);(try clear c37);(try clear c37b0);(try clear c38);(try clear c38b0);(try clear c39);(try clear c39b0);(try clear c39b1);(try clear c40);(try clear c41);(try clear c41b0);(try clear c41b1);(try clear c42);(try clear c42b0);(try clear c43);(try clear c43b0);(try clear c44);(try clear c44b0);(try clear c45);(try clear c45b0);(try clear c46);(try clear c46b0);(try clear hx277_0);(try clear hx281_0);(try clear hx284_0);(try clear hx285_0);(try clear hx286_0);(try clear hx287_0);(try clear p2);(try clear p27);(try clear p277);(try clear p28);(try clear p281);(try clear p284);(try clear p285);(try clear p286);(try clear p287);(try clear p6);(try clear q2);(try clear q27);(try clear q277);(try clear q28);(try clear q281);(try clear q284);(try clear q285);(try clear q286);(try clear q287);obtain ⟨kq,x98_39,rfl,HA,HJ39,HO_3,HO_5,HB⟩:=hcut;cases kq with
             | zero=>exact absurd HA.out (by simp [laws_FnRows.j4])
             | succ kj39=>
              have H:=HA.out;clear HA;simp only [laws_FnRows.j4] at H;by_cases c47:x98_39=true
              ·subst c47;replace H:=ifT H;obtain rfl:=Option.some.inj H;go_wp2;go_ret;exact ⟨by first|rfl|(simp [errW_none,errW_some]<;>rfl)|(simp [*,errW_none,errW_some]<;>rfl),zb HB.out⟩
              ·replace c47:=Bool.eq_false_iff.mpr c47;subst c47;replace H:=ifF H;have H':=aM H;clear H;go_wp2;go_loopg [11] kj39 (fun kq v11 w'=>∃(x11_5:Int),v11 = .int .i64 x11_5∧Aside0 (laws_FnRows.l3 kq t267 t268 t271 x9_2 x10_31 x11_5=some r)∧Aside0 (kq≤kj39)∧Aside0 (Kd.S (Kd.slice 3 (Kd.int .i64)) 23 w' w.heap.size (fun k_=>some k_≠((.slice Ao33 t271.length co33):Value).ownBlock) (.slice Ao15 t267.length co15) t267)∧Aside0 (Kd.S (Kd.slice 3 (Kd.int .i64)) 23 w' w.heap.size (fun k_=>some k_≠((.slice Ao15 t267.length co15):Value).ownBlock) (.slice Ao33 t271.length co33) t271)∧Aside0 (Below w.heap.size w w'));(case atStart=>exact ⟨(0),zt,H',⟨Nat.le_refl _⟩,⟨by (with_reducible repeat (first|apply Kd.S_alloc|apply Kd.S_drewN|apply Kd.S_drew));exact HO_3.out⟩,⟨by (with_reducible repeat (first|apply Kd.S_alloc|apply Kd.S_drewN|apply Kd.S_drew));exact HO_5.out⟩,⟨zb HB.out⟩⟩)
               case round=>
                clear H';(try clear c1);(try clear c2);(try clear p2);(try clear q2);(try clear hx2);(try clear c3);(try clear c4);(try clear c6);(try clear p6);(try clear c8);(try clear c8b0);(try clear c8b1);(try clear c8b2);(try clear c13);(try clear c17);(try clear c17b0);(try clear c18);(try clear c18b0);(try clear c21);(try clear c22);(try clear c22b0);(try clear c22b1);(try clear c23);(try clear c27);(try clear p27);(try clear q27);(try clear hx27);(try clear c28);(try clear p28);(try clear q28);(try clear hx28);(try clear c30);(try clear c31);(try clear c31b0);(try clear c34);(try clear c34b0);(try clear c35);(try clear c35b0);(try clear c36);(try clear c36b0);(try clear c37);(try clear c37b0);(try clear c38);(try clear c38b0);(try clear c39);(try clear c39b0);(try clear c39b1);(try clear c40);(try clear c41);(try clear c41b0);(try clear c41b1);(try clear c42);(try clear c42b0);(try clear c43);(try clear c43b0);(try clear c44);(try clear c44b0);(try clear c45);(try clear c45b0);(try clear c46);(try clear c46b0);(try clear c47);(try clear hx277_0);(try clear hx281_0);(try clear hx284_0);(try clear hx285_0);(try clear hx286_0);(try clear hx287_0);(try clear p2);(try clear p27);(try clear p277);(try clear p28);(try clear p281);(try clear p284);(try clear p285);(try clear p286);(try clear p287);(try clear p6);(try clear q2);(try clear q27);(try clear q277);(try clear q28);(try clear q281);(try clear q284);(try clear q285);(try clear q286);(try clear q287);obtain ⟨x11_5,rfl,HA,HK5,HO_3,HO_5,HB⟩:=hrel;cases gk with
                | zero=>exact absurd HA.out (by simp [laws_FnRows.l3])
                | succ k5=>
                 have H:=HA.out;clear HA;simp only [laws_FnRows.l3] at H;by_cases c48:x11_5<(t271.length:Int)
                 ·rw [if_pos c48] at H;have c48b0:decide (x11_5<(t271.length:Int))=true:=decide_eq_true c48;clear c48;by_cases c49:x11_5=x9_2
                  ·rw [if_pos c49] at H;have c49b0:(x11_5 == x9_2)=true:=beq_iff_eq.mpr c49;have c49b1:(x11_5 != x9_2)=false:=bne_eq_false_iff_eq.mpr c49;clear c49;have H':=aM H;clear H;go_wp2;go_roundg k5;(case measure=>have:=HK1.out;have:=HK2.out;have:=HJ31.out;have:=HJ39.out;have:=HK5.out;omega);(case rel=>exact ⟨(wrap64 (x11_5+1)),zt,H',⟨by have:=HK1.out;have:=HK2.out;have:=HJ31.out;have:=HJ39.out;have:=HK5.out;omega⟩,⟨by (with_reducible repeat (first|apply Kd.S_alloc|apply Kd.S_drewN|apply Kd.S_drew));exact HO_3.out⟩,⟨by (with_reducible repeat (first|apply Kd.S_alloc|apply Kd.S_drewN|apply Kd.S_drew));exact HO_5.out⟩,⟨zb HB.out⟩⟩)
                  ·rw [if_neg c49] at H;have c49b0:(x11_5 == x9_2)=false:=beq_eq_false_iff_ne.mpr c49;have c49b1:(x11_5 != x9_2)=true:=bne_iff_ne.mpr c49;obtain ⟨c50b0,H⟩:=iN H;obtain ⟨c51b0,H⟩:=iN H;obtain ⟨c52b0,H⟩:=iN H;by_cases c53:(rd (rd_L1 t271 x11_5) x10_31)=0
                   ·rw [if_pos c53] at H;have c53b0:((rd (rd_L1 t271 x11_5) x10_31) == 0)=true:=beq_iff_eq.mpr c53;have c53b1:((rd (rd_L1 t271 x11_5) x10_31) != 0)=false:=bne_eq_false_iff_eq.mpr c53;clear c53;have H':=aM H;clear H;have p288:0≤(x11_5:Int):=zd;have q288:x11_5<(t271.length:Int):=zd;obtain ⟨ad288,A288_0,c288_0,e288,hx288_0,hl288_0,hi288_0⟩:=at_L1 (Kd.S_reads' HO_5.out).2.2 x11_5 p288 q288;cases e288;obtain ⟨ce288,hce288,hMe288,hcc288⟩:=Kd.S_get HO_5.out [] x11_5 p288 (by first|exact q288|exact zd|(have e_:=(Kd.S_reads' HO_5.out).1;omega));obtain ⟨ve288_0,rfl,ge288_0⟩:=hMe288;have hv288_0:=hcc288 0 _ rfl;rw [Nat.add_zero,show ((Kd.slice 3 (Kd.int .i64))).sz=1 from rfl,Nat.mul_one] at hv288_0;replace hv288_0:=Option.some.inj (hv288_0.symm.trans hx288_0);rw [hv288_0] at ge288_0;have HL288_0:=aM (show Kd.R (Kd.int .i64) 3 _ _ _ _ (rd_L1 t271 x11_5) from ge288_0);clear hv288_0 ge288_0 hcc288 hce288;have HR288_0:=aM hi288_0;have HC288_0:=aM hl288_0;clear hi288_0 hl288_0;replace p288:=eq_true p288;replace q288:=eq_true q288;have p289:0≤(x10_31:Int):=zd;have q289:x10_31<((rd_L1 t271 x11_5).length:Int):=zd;obtain ⟨ad289,e289,hx289_0⟩:=Kd.at_int (zc HR288_0.out) x10_31 p289 q289;cases e289;replace p289:=eq_true p289;replace q289:=eq_true q289;go_wp2;go_roundg k5;(case measure=>have:=HK1.out;have:=HK2.out;have:=HJ31.out;have:=HJ39.out;have:=HK5.out;omega);(case rel=>exact ⟨(wrap64 (x11_5+1)),zt,H',⟨by have:=HK1.out;have:=HK2.out;have:=HJ31.out;have:=HJ39.out;have:=HK5.out;omega⟩,⟨by (with_reducible repeat (first|apply Kd.S_alloc|apply Kd.S_drewN|apply Kd.S_drew));exact HO_3.out⟩,⟨by (with_reducible repeat (first|apply Kd.S_alloc|apply Kd.S_drewN|apply Kd.S_drew));exact HO_5.out⟩,⟨zb HB.out⟩⟩)
                   ·rw [if_neg c53] at H;have c53b0:((rd (rd_L1 t271 x11_5) x10_31) == 0)=false:=beq_eq_false_iff_ne.mpr c53;have c53b1:((rd (rd_L1 t271 x11_5) x10_31) != 0)=true:=bne_iff_ne.mpr c53;obtain rfl:=Option.some.inj H;have p288:0≤(x11_5:Int):=zd;have q288:x11_5<(t271.length:Int):=zd;obtain ⟨ad288,A288_0,c288_0,e288,hx288_0,hl288_0,hi288_0⟩:=at_L1 (Kd.S_reads' HO_5.out).2.2 x11_5 p288 q288;cases e288;obtain ⟨ce288,hce288,hMe288,hcc288⟩:=Kd.S_get HO_5.out [] x11_5 p288 (by first|exact q288|exact zd|(have e_:=(Kd.S_reads' HO_5.out).1;omega));obtain ⟨ve288_0,rfl,ge288_0⟩:=hMe288;have hv288_0:=hcc288 0 _ rfl;rw [Nat.add_zero,show ((Kd.slice 3 (Kd.int .i64))).sz=1 from rfl,Nat.mul_one] at hv288_0;replace hv288_0:=Option.some.inj (hv288_0.symm.trans hx288_0);rw [hv288_0] at ge288_0;have HL288_0:=aM (show Kd.R (Kd.int .i64) 3 _ _ _ _ (rd_L1 t271 x11_5) from ge288_0);clear hv288_0 ge288_0 hcc288 hce288;have HR288_0:=aM hi288_0;have HC288_0:=aM hl288_0;clear hi288_0 hl288_0;replace p288:=eq_true p288;replace q288:=eq_true q288;have p289:0≤(x10_31:Int):=zd;have q289:x10_31<((rd_L1 t271 x11_5).length:Int):=zd;obtain ⟨ad289,e289,hx289_0⟩:=Kd.at_int (zc HR288_0.out) x10_31 p289 q289;cases e289;replace p289:=eq_true p289;replace q289:=eq_true q289;go_wp2;go_ret;exact ⟨by first|rfl|(simp [errW_none,errW_some]<;>rfl)|(simp [*,errW_none,errW_some]<;>rfl),zb HB.out⟩
                 ·rw [if_neg c48] at H;have c48b0:decide (x11_5<(t271.length:Int))=false:=decide_eq_false c48;clear c48;have H':=aM H;clear H;go_wp2;go_roundg k5;(case measure=>have:=HK1.out;have:=HK2.out;have:=HJ31.out;have:=HJ39.out;have:=HK5.out;omega);(case rel=>exact ⟨(x10_31),(wrap64 (x9_2+1)),zt,zt,H',⟨by have:=HK1.out;have:=HK2.out;have:=HJ31.out;have:=HJ39.out;have:=HK5.out;omega⟩,⟨by (with_reducible repeat (first|apply Kd.S_alloc|apply Kd.S_drewN|apply Kd.S_drew));exact HO_3.out⟩,⟨by (with_reducible repeat (first|apply Kd.S_alloc|apply Kd.S_drewN|apply Kd.S_drew));exact HO_5.out⟩,⟨zb HB.out⟩⟩)
         ·rw [if_neg c31] at H;have c31b0:decide (x9_2<(t271.length:Int))=false:=decide_eq_false c31;clear c31;by_cases c54:(t271.length:Int)≤(t267.length:Int)
          ·rw [if_pos c54] at H;have c54b0:decide ((t271.length:Int)≤(t267.length:Int))=true:=decide_eq_true c54;have c54b1:decide (t271.length≤t267.length)=true:=decide_eq_true (Int.ofNat_le.mp c54);clear c54;by_cases c55:(t271.length:Int)≤t268
           ·rw [if_pos c55] at H;have c55b0:decide ((t271.length:Int)≤t268)=true:=decide_eq_true c55;clear c55;obtain ⟨t283,A56,H⟩:=bz H;obtain rfl:=Option.some.inj H;obtain ⟨Ao57,co57,eo57⟩:=Kd.S_slice HO_5.out;subst eo57;go_wp2_with (first|(go_at_call 43;(with_reducible refine (impl_RankOf.calls k2 _ _ t267 t268 t283 _ ?side1 ?side2 A56.out).mono ?_);(case side1=>exact zc (Kd.S_reads' HO_3.out).2.2);(case side2=>exact (Kd.S_reads' HO_3.out).2.1);rintro e w58 ⟨rfl,hb⟩;replace HO_3:=aM (Kd.S_below (by (with_reducible repeat (first|apply Kd.S_alloc|apply Kd.S_drewN|apply Kd.S_drew));exact HO_3.out) hb);replace HO_5:=aM (Kd.S_below (by (with_reducible repeat (first|apply Kd.S_alloc|apply Kd.S_drewN|apply Kd.S_drew));exact HO_5.out) hb);replace HB:=aM (below_step (zb HB.out) hb);(try clear hb);(try clear hb2);(try clear hk);(try clear hi)));go_ret;exact ⟨by first|rfl|(simp [errW_none,errW_some]<;>rfl)|(simp [*,errW_none,errW_some]<;>rfl),zb HB.out⟩
           ·rw [if_neg c55] at H;have c55b0:decide ((t271.length:Int)≤t268)=false:=decide_eq_false c55;clear c55;obtain rfl:=Option.some.inj H;obtain ⟨Ao59,co59,eo59⟩:=Kd.S_slice HO_5.out;subst eo59;go_wp2;go_ret;exact ⟨by first|rfl|(simp [errW_none,errW_some]<;>rfl)|(simp [*,errW_none,errW_some]<;>rfl),zb HB.out⟩
          ·rw [if_neg c54] at H;have c54b0:decide ((t271.length:Int)≤(t267.length:Int))=false:=decide_eq_false c54;have c54b1:decide (t271.length≤t267.length)=false:=decide_eq_false (fun h=>c54 (Int.ofNat_le.mpr h));clear c54;obtain rfl:=Option.some.inj H;obtain ⟨Ao60,co60,eo60⟩:=Kd.S_slice HO_5.out;subst eo60;go_wp2;go_ret;exact ⟨by first|rfl|(simp [errW_none,errW_some]<;>rfl)|(simp [*,errW_none,errW_some]<;>rfl),zb HB.out⟩
   ·replace c13:=Bool.eq_false_iff.mpr c13;subst c13;replace H:=ifF H;obtain rfl:=Option.some.inj H;go_enter Try.func6,Try.ntmps6;go_wp2_with (first|((with_reducible refine gate_callee (f:=23) rfl ?_);refine gm (some 13) Try.func23 #[.slice A0 l0.length c0] ?_;(with_reducible refine (laws_big.calls _ _ l0 false _ ?side1 ?side2 A2.out).mono ?_);(case side1=>exact zc HR0.out);(case side2=>exact HC0.out);rintro e w' ⟨rfl,⟨nd,rfl⟩⟩;refine ⟨_,rfl,?_⟩)|((with_reducible refine gate_callee (f:=38) rfl ?_);refine gm (some 16) Try.func38 #[.slice A0 l0.length c0] ?_;(with_reducible refine (spec_DrawReduceRows.calls k _ _ l0 t267 t268 _ ?side1 ?side2 A4.out).mono ?_);(case side1=>exact zc HR0.out);(case side2=>exact HC0.out);rintro e w61 ⟨v269,rfl,ho0,hb⟩;refine ⟨_,rfl,?_⟩;have HO270:=aM (Kd.S_lower ho0 (below_size (zb HB.out)));replace HB:=aM (below_step (zb HB.out) hb);(try clear hb);(try clear hb2);(try clear hk);(try clear hi);(try clear ho0);obtain ⟨Ao62,co62,eo62⟩:=Kd.S_slice HO270.out;subst eo62)|((with_reducible refine gate_callee (f:=39) rfl ?_);refine gm (some 21) Try.func39 #[.slice Ao62 t267.length co62,.int .i64 t268] ?_;(with_reducible refine (impl_ReduceRows.calls k _ _ t267 t268 t271 _ ?side1 ?side2 A5.out).mono ?_);(case side1=>exact zc (Kd.S_reads' HO270.out).2.2);(case side2=>exact (Kd.S_reads' HO270.out).2.1);rintro e w63 ⟨v272,rfl,ho0,hb⟩;refine ⟨_,rfl,?_⟩;have HO273:=aM (Kd.S_lower (Kd.S_new' ho0 (Kd.S_lt (by (with_reducible repeat (first|apply Kd.S_alloc|apply Kd.S_drewN|apply Kd.S_drew));exact HO270.out))) (below_size (zb HB.out)));replace HO270:=aM (Kd.S_elder' (by (with_reducible repeat (first|apply Kd.S_alloc|apply Kd.S_drewN|apply Kd.S_drew));exact HO270.out) (Kd.S_base ho0) hb);replace HB:=aM (below_step (zb HB.out) hb);(try clear hb);(try clear hb2);(try clear hk);(try clear hi);(try clear ho0))|((with_reducible refine gate_callee (f:=40) rfl ?_);refine gm (some 24) Try.func40 #[.slice Ao62 t267.length co62,.int .i64 t268] ?_;(with_reducible refine (impl_IsMatrix.calls k _ _ t267 t268 t274 _ ?side1 ?side2 A6.out).mono ?_);(case side1=>exact zc (Kd.S_reads' HO270.out).2.2);(case side2=>exact (Kd.S_reads' HO270.out).2.1);rintro e w' ⟨rfl,⟨nd,rfl⟩⟩;refine ⟨_,rfl,?_⟩)|((with_reducible refine gate_callee (f:=41) rfl ?_);refine gm (some 27) Try.func41 #[.slice Ao62 t267.length co62,.int .i64 t268] ?_;(with_reducible refine (spec_IsMatrix.calls k _ _ t267 t268 t275 _ ?side1 ?side2 A7.out).mono ?_);(case side1=>exact zc (Kd.S_reads' HO270.out).2.2);(case side2=>exact (Kd.S_reads' HO270.out).2.1);rintro e w' ⟨rfl,⟨nd,rfl⟩⟩;refine ⟨_,rfl,?_⟩)|((with_reducible refine gate_callee (f:=40) rfl ?_);refine gm (some 31) Try.func40 #[.slice Ao62 t267.length co62,.int .i64 t268] ?_;(with_reducible refine (impl_IsMatrix.calls k _ _ t267 t268 false _ ?side1 ?side2 A12.out).mono ?_);(case side1=>exact zc (Kd.S_reads' HO270.out).2.2);(case side2=>exact (Kd.S_reads' HO270.out).2.1);rintro e w' ⟨rfl,⟨nd,rfl⟩⟩;refine ⟨_,rfl,?_⟩;obtain ⟨Ao64,co64,eo64⟩:=Kd.S_slice HO273.out;subst eo64));go_ret;exact ⟨by first|rfl|(simp [errW_none,errW_some]<;>rfl)|(simp [*,errW_none,errW_some]<;>rfl),zb HB.out⟩
def laws_FnRows.Pure : Prop := ∀ (l0 : List Int), l0.length ≤ maxLen → l0.length * 1 ≤ 140737488351232 → (∀ x ∈ l0, (Lit.int .u8 x).wf = true) → ∃ k, laws_FnRows.f k l0 = some true
theorem laws_FnRows.walk (P : laws_FnRows.Pure) (a0 : Option Addr) (len0 cap0 : Nat) (z0 : List Int) (w : World) (w0 : (a0 = none ∧ len0 = 0 ∧ cap0 = 0 ∧ z0 = []) ∨ ∃ x, a0 = some x ∧ len0 ≤ cap0 ∧ cap0 ≤ maxLen ∧ z0.length = cap0 ∧ (∀ i, i < z0.length → w.cell? (x.add i) = some (.int .u8 (z0.getD i 0))) ∧ ∀ n ∈ z0, (Lit.int .u8 n).wf = true) (y0 : len0 * 1 ≤ 140737488351232) :
  Calls Try.prog 6 #[.slice a0 len0 cap0] w fun e w' => e = .returned (.bool true) ∧ Below w.heap.size w w' := by
 obtain ⟨l0, rfl, hr0, hm0, hw0, hc0⟩ := ReadsInt.ofRowC w0
 obtain ⟨k, h⟩ := P l0 hm0 y0 hw0
 refine (laws_FnRows.calls k _ _ l0 true w (Kd.C_of_reads (d := (0 : Int)) (h1 := fun _ => rfl) hr0) hc0 h).mono ?_
 rintro e w' ⟨rfl, hd⟩
 exact ⟨rfl, hd⟩
end Go.Proofs.Ytojkepidkmkmpaa.PFnRows
end
