/-
  Goes on where the text before it ends.
  Conditions: none beside the given statement's own.
-/
import Derived.Deep.Matrix
import Derived.ProofKit
import Derived.OpenShut
import Derived.Deep.Slices
import Derived.Deep.Fields
import Derived.ChangeSame
import Derived.Test.YtojkepidkmkmpaaRows
import Derived.WalkKit
import Derived.ShutString
import Derived.ChangeOld
import Derived.Below
import Derived.SizedLaws
import Derived.Test.YtojkepidkmkmpaaPFITb
set_option linter.unusedVariables false
set_option linter.unusedSimpArgs false
section
namespace Go.Proofs.Ytojkepidkmkmpaa.PFnExactFitsSystem
open Go.Proofs.YtojkepidkmkmpaaW.PrintWords.Aside0 renaming mk → aM
open List renaming setIfInBounds_toArray → qa, set_cons_zero → qz, set_cons_succ → qs
open Bool renaming true → tt, false → ff
open Option renaming bind_eq_some_iff → bE

open Go.RowKit Go.Proofs.YtojkepidkmkmpaaW.PrintWords Go.Proofs.YtojkepidkmkmpaaW.PrintLast Go.Proofs.YtojkepidkmkmpaaW.PrintMore
attribute [local go_sem] max2_int min2_int max_two min_two max_three min_three max_four min_four
set_option linter.unusedVariables false
set_option linter.unusedSimpArgs false
mutual
def spec_l6Dot.l0 : Nat → List Int → List (S26) → Int → Int → Int → Option (Int × Int × Bool)
 | 0, _, _, _, _, _ => none
 | k + 1, x0, x1, x7, x207000, x207001 => if x7 < (x0.length : Int) then (spec_l6Dot.j1 k x0 x1 x7 (decide (x7 < (x1.length : Int))) x207000 x207001) else (spec_l6Dot.j1 k x0 x1 x7 false x207000 x207001)
def spec_l6Dot.j1 : Nat → List Int → List (S26) → Int → Bool → Int → Int → Option (Int × Int × Bool)
 | 0, _, _, _, _, _, _ => none
 | k + 1, x0, x1, x7, x20, x207000, x207001 => if x20 = true then (if 0 ≤ x7 then (if x7 < (x0.length : Int) then (if x7 < (x1.length : Int) then ((spec_TimesRatios.f k (rd x0 x7) 1 ((rd_T26 x1 x7).f0) ((rd_T26 x1 x7).f1)).bind fun bt209 => (if bt209.2.2 = true then ((spec_AddRatios.f k x207000 x207001 bt209.1 bt209.2.1).bind fun bt213 => (if bt213.2.2 = true then (spec_l6Dot.l0 k x0 x1 (wrap64 (x7 + 1)) bt213.1 bt213.2.1) else (some (0, 0, false)))) else (some (0, 0, false)))) else (none)) else (none)) else (none)) else (some (x207000, x207001, true))
end
def spec_l6Dot.f (k : Nat) (l0 : List Int) (l1 : List (S26)) : Option (Int × Int × Bool) := spec_l6Dot.l0 k l0 l1 0 0 1
def spec_l6Dot.T5 : Bool × List (List Nat × List Nat) := (true, [([], []), ([], []), ([0, 1], [0, 1]), ([2], [2]), ([3], [3]), ([], []), ([], []), ([5, 6], [5, 6]), ([7], [7]), ([4, 8], [4, 8]), ([9], [9]), ([10], [10]), ([10], [10]), ([], []), ([13, 11, 9, 0, 1, 2, 3, 4, 5, 6, 7, 8, 9, 10, 11, 13], [11, 13]), ([12, 14, 0, 1, 2, 3, 4, 5, 6, 7, 8, 9, 10, 11, 12, 13, 14], [12])])
def spec_l6Dot.B5 : List Nat := [0, 0, 3, 7, 15, 0, 0, 96, 224, 511, 1023, 2047, 2047, 0, 12287, 32767]
theorem spec_l6Dot.tab5 : rtab .any (opsOf Try.f57 5) = spec_l6Dot.T5 := by kernel_rfl
theorem spec_l6Dot.bits5 : waitsOk spec_l6Dot.T5.2 spec_l6Dot.B5 = true := by kernel_rfl
set_option maxHeartbeats 8000000 in
set_option maxRecDepth 100000 in
theorem spec_l6Dot.calls (k : Nat) (A0 : Option Addr) (c0 : Nat) (l0 : List Int) (A1 : Option Addr) (c1 : Nat) (l1 : List (S26)) (r1 : Int) (r2 : Int) (r3 : Bool) (w : World) (hr0 : Kd.C (Kd.int .i64) w A0 l0.length l0) (hc0 : l0.length ≤ c0) (hr1 : Kd.C k26 w A1 l1.length l1) (hc1 : l1.length ≤ c1) (h : spec_l6Dot.f k l0 l1 = some (r1, r2, r3)) :
 Calls Try.prog 57 #[.slice A0 l0.length c0, .slice A1 l1.length c1] w fun e w' => e = .returned (.tuple #[.agg #[.int .i64 r1, .int .i64 r2], .bool r3]) ∧ Below w.heap.size w w' := by
 have hu26:=Try.underlying26;have HR0:=aM hr0;have HC0:=aM hc0;clear hr0 hc0;have HR1:=aM hr1;have HC1:=aM hc1;clear hr1 hc1;have HB:=aM (Below.refl w.heap.size w);have H:(spec_l6Dot.l0 k l0 l1 0 0 1)=some (r1,r2,r3):=h;clear h;have H':=aM H;clear H;go_enter Try.func57,Try.ntmps57;go_wp2_with (first|((with_reducible refine gate_dst (N:=4) rfl ?_);(try (refine gate_guard (by rfl) ?_;dsimp only));refine box_event ?hg (N:=4) ?hd (cs:=#[.int .i64 0,.int .i64 0]) (t:=26) ?hr ?_;(case hd=>rfl);(case hg=>rfl);(case hr=>first|(go_simp;done)|(go_simp;rfl));intro gb205 hg w3 hbox hb;have BK205:=aM (hbox);have GW205:=aM (zg hg (zb HB.out));have GE205:=aM (zg hg (zb HB.out));replace HB:=aM (below_step (zb HB.out) hb);clear hb hbox hg)|((with_reducible refine gate_dst (N:=6) rfl ?_);(try (refine gate_guard (by rfl) ?_;dsimp only));refine box_event ?hg (N:=6) ?hd (cs:=#[.int .i64 0,.int .i64 0]) (t:=26) ?hr ?_;(case hd=>rfl);(case hg=>rfl);(case hr=>first|(go_simp;done)|(go_simp;rfl));intro gb206 hg w4 hbox hb;have BK206:=aM (hbox);have GW206:=aM (zg hg (zs HB.out));have GE206:=aM (zg hg (zs HB.out));replace HB:=aM (below_step (zs HB.out) hb);have NB205_206:=aM (zl hg (zk BK205.out));have NB206_205:=aM (zm hg (zk BK205.out));replace BK205:=aM (blk_below (g:=gb205) (o:=.cells #[.int .i64 0,.int .i64 0] 26 (0,0)) (zk BK205.out) hb);clear hb hbox hg;have hnb5:=NB206_205.out;have hnc5:=NB205_206.out;have hcz6_0:w4.cell? ⟨gb206,0,none⟩=some (.int .i64 0):=(blk_cell BK206.out 0).trans rfl;have hcz6_1:w4.cell? ⟨gb206,1,none⟩=some (.int .i64 0):=(blk_cell BK206.out 1).trans rfl;have hfz6_0:=blk_frozen BK206.out 0;have hfz6_1:=blk_frozen BK206.out 1));go_loopg [7] k (fun kq v7 w'=>∃(x7_1:Int) (x206000_1:Int) (x206001_1:Int) (x207000_1:Int) (x207001_1:Int),v7 = .int .i64 x7_1∧Aside0 (spec_l6Dot.l0 kq l0 l1 x7_1 x207000_1 x207001_1=some (r1,r2,r3))∧Aside0 (kq≤k)∧Aside0 (w'.heap[gb205]?=some (.cells #[.int .i64 x206000_1,.int .i64 x206001_1] 26 (0,0)))∧Aside0 (w'.heap[gb206]?=some (.cells #[.int .i64 x207000_1,.int .i64 x207001_1] 26 (0,0)))∧Aside0 (Below w.heap.size w w'));(case atStart=>exact ⟨(0),(0),(0),(0),(1),zt,H',⟨Nat.le_refl _⟩,⟨by (with_reducible repeat (first|refine blk_drewN ?_ _|refine blk_drew ?_|refine blk_alloc ?_ _));refine blk_far ?_ NB205_206.out _;(with_reducible repeat (first|refine blk_drewN ?_ _|refine blk_drew ?_|refine blk_alloc ?_ _));refine blk_far ?_ NB205_206.out _;(with_reducible repeat (first|refine blk_drewN ?_ _|refine blk_drew ?_|refine blk_alloc ?_ _));exact BK205.out⟩,⟨by (with_reducible repeat (first|refine blk_drewN ?_ _|refine blk_drew ?_|refine blk_alloc ?_ _));refine blk_put (cs:=#[.int .i64 0,.int .i64 0]) ?_ 1 _ rfl;(with_reducible repeat (first|refine blk_drewN ?_ _|refine blk_drew ?_|refine blk_alloc ?_ _));refine blk_put (cs:=#[.int .i64 0,.int .i64 0]) ?_ 0 _ rfl;(with_reducible repeat (first|refine blk_drewN ?_ _|refine blk_drew ?_|refine blk_alloc ?_ _));exact BK206.out⟩,⟨zs HB.out⟩⟩)
 case round=>
  clear H';(try clear c1);(try clear p2);(try clear c5);(try clear hcz6_0);(try clear hcz6_1);(try clear hfz6_0);(try clear hfz6_1);obtain ⟨x7_1,x206000_1,x206001_1,x207000_1,x207001_1,rfl,HA,HK1,BK205,BK206,HB⟩:=hrel;cases gk with
  | zero=>exact absurd HA.out (by simp [spec_l6Dot.l0])
  | succ k1=>
   have H:=HA.out;clear HA;simp only [spec_l6Dot.l0] at H;have HC7:=aM H;clear H;go_upto_region 3 with (fail)
   go_cut [20] (fun v20 wc=>∃(kq:Nat) (x20_6:Bool),v20 = .bool x20_6∧Aside0 (spec_l6Dot.j1 kq l0 l1 x7_1 x20_6 x207000_1 x207001_1=some (r1,r2,r3))∧Aside0 (kq≤k1)∧Aside0 (wc.heap[gb205]?=some (.cells #[.int .i64 x206000_1,.int .i64 x206001_1] 26 (0,0)))∧Aside0 (wc.heap[gb206]?=some (.cells #[.int .i64 x207000_1,.int .i64 x207001_1] 26 (0,0)))∧Aside0 (Below w.heap.size w wc))
   case first=>
    have H:=HC7.out;clear HC7;by_cases c8:x7_1<(l0.length:Int)
    ·rw [if_pos c8] at H;have c8b0:decide (x7_1<(l0.length:Int))=true:=decide_eq_true c8;clear c8;(first|rw [c8b0]|(simp only [i64_w,i32_w];rw [c8b0])|skip);have H':=aM H;clear H;go_wp2;go_meet;(case rel=>exact ⟨_,(decide (x7_1<(l1.length:Int))),zt,H',⟨by have:=HK1.out;first|omega|exact Nat.le_refl _⟩,⟨zk BK205.out⟩,⟨zk BK206.out⟩,⟨zs HB.out⟩⟩)
    ·rw [if_neg c8] at H;have c8b0:decide (x7_1<(l0.length:Int))=false:=decide_eq_false c8;clear c8;(first|rw [c8b0]|(simp only [i64_w,i32_w];rw [c8b0])|skip);have H':=aM H;clear H;go_wp2;go_meet;(case rel=>exact ⟨_,(false),zt,H',⟨by have:=HK1.out;first|omega|exact Nat.le_refl _⟩,⟨zk BK205.out⟩,⟨zk BK206.out⟩,⟨zs HB.out⟩⟩)
   case rest=>
    clear HC7;(try clear c1);(try clear p2);(try clear c5);(try clear c8);(try clear c8b0);(try clear hcz6_0);(try clear hcz6_1);(try clear hfz6_0);(try clear hfz6_1);(try clear p2);obtain ⟨kq,x20_6,rfl,HA,HJ6,BK205,BK206,HB⟩:=hcut;cases kq with
    | zero=>exact absurd HA.out (by simp [spec_l6Dot.j1])
    | succ kj6=>
     have H:=HA.out;clear HA;simp only [spec_l6Dot.j1] at H;by_cases c9:x20_6=true
     ·subst c9;replace H:=ifT H;obtain ⟨c10b0,H⟩:=iN H;obtain ⟨c11b0,H⟩:=iN H;obtain ⟨c12b0,H⟩:=iN H;obtain ⟨⟨t209,t210,t211⟩,A13,H⟩:=bz H;dsimp only at H;by_cases c14:t211=true
      ·subst c14;replace H:=ifT H;obtain ⟨⟨t213,t214,t215⟩,A15,H⟩:=bz H;dsimp only at H;by_cases c16:t215=true
       ·subst c16;replace H:=ifT H;have H':=aM H;clear H;(try go_wp2);replace BK205:=aM (blk_drew BK205.out);replace BK206:=aM (blk_drew BK206.out);replace HB:=aM (below_drew1 HB.out);have p207:0≤(x7_1:Int):=zd;have q207:x7_1<(l0.length:Int):=zd;obtain ⟨ad207,e207,hx207_0⟩:=Kd.at_int HR0.out x7_1 p207 q207;have hw207_0:=hx207_0;cases e207;replace hx207_0:=(HB.out.cell (World.block_lt_of_cell? w _ hx207_0)).trans hx207_0;replace p207:=eq_true p207;replace q207:=eq_true q207;have p208:0≤(x7_1:Int):=zd;have q208:x7_1<(l1.length:Int):=zd;obtain ⟨ad208,e208,hx208_0,hx208_1⟩:=at_T26 HR1.out x7_1 p208 q208;have hw208_1:=hx208_1;have hw208_0:=hx208_0;cases e208;replace hx208_0:=(HB.out.cell (World.block_lt_of_cell? w _ hx208_0)).trans hx208_0;replace hx208_1:=(HB.out.cell (World.block_lt_of_cell? w _ hx208_1)).trans hx208_1;replace p208:=eq_true p208;replace q208:=eq_true q208;refine start_ (n:=16) (S:=fun w'=>w'.cell? (ad207.add (x7_1).toNat)=some (.int .i64 (rd l0 x7_1))∧w'.cell? (ad208.add ((x7_1).toNat*2))=some (.int .i64 ((rd_T26 l1 x7_1).f0))∧w'.cell? ⟨(ad208.add ((x7_1).toNat*2)).block,(ad208.add ((x7_1).toNat*2)).off+1,none⟩=some (.int .i64 ((rd_T26 l1 x7_1).f1))) (ds:=[]) #[ff,ff,ff,ff,ff,ff,ff,ff,ff,ff,ff,ff,ff,ff,ff,ff] (by kernel_rfl) rfl rfl ⟨((HB.out.cell (World.block_lt_of_cell? w _ hw207_0)).trans hw207_0),((HB.out.cell (World.block_lt_of_cell? w _ hw208_0)).trans hw208_0),((HB.out.cell (World.block_lt_of_cell? w _ hw208_1)).trans hw208_1)⟩ (fun hHeld=>?_);refine with_tabW spec_l6Dot.tab5 spec_l6Dot.bits5 (fun HT_ HW_=>?_);generalize wc.drew=w17 at BK205 BK206 HB hx207_0 hx208_0 hx208_1 hHeld ⊢;refine pu 0 (some 24) #[tt,ff,ff,ff,ff,ff,ff,ff,ff,ff,ff,ff,ff,ff,ff,ff] rfl rfl HT_ ?_;refine pu 1 (some 25) #[tt,tt,ff,ff,ff,ff,ff,ff,ff,ff,ff,ff,ff,ff,ff,ff] rfl rfl HT_ ?_;refine pu 2 (some 26) #[tt,tt,tt,ff,ff,ff,ff,ff,ff,ff,ff,ff,ff,ff,ff,ff] rfl rfl HT_ ?_;refine pu 5 (some 29) #[tt,tt,tt,ff,ff,tt,ff,ff,ff,ff,ff,ff,ff,ff,ff,ff] rfl rfl HT_ ?_;refine pu 6 (some 30) #[tt,tt,tt,ff,ff,tt,tt,ff,ff,ff,ff,ff,ff,ff,ff,ff] rfl rfl HT_ ?_;refine pu 7 (some 31) #[tt,tt,tt,ff,ff,tt,tt,tt,ff,ff,ff,ff,ff,ff,ff,ff] rfl rfl HT_ ?_;refine take_ (i:=3) (N:=some 27) (v:=?_) (a':=?_) #[tt,tt,tt,tt,ff,tt,tt,tt,ff,ff,ff,ff,ff,ff,ff,ff] rfl rfl (take_ofW HT_.out HW_.out (by kernel_rfl)) (fun _ _ _ h=>h) (Or.inl ⟨by rfl,?_⟩) hHeld ?_ ?_;rotate_left
        ·rintro w' ⟨s0,s1,s2⟩;go_simp;(with_reducible rfl)
        rotate_left
        ·simp only [Act.put,qa,qz,qs,i64_w,i32_w];rfl
        refine pu 4 (some 28) #[tt,tt,tt,tt,tt,tt,tt,tt,ff,ff,ff,ff,ff,ff,ff,ff] rfl rfl HT_ ?_;refine take_ (i:=8) (N:=some 32) (v:=?_) (a':=?_) #[tt,tt,tt,tt,tt,tt,tt,tt,tt,ff,ff,ff,ff,ff,ff,ff] rfl rfl (take_ofW HT_.out HW_.out (by kernel_rfl)) (fun _ _ _ h=>h) (Or.inl ⟨by rfl,?_⟩) hHeld ?_ ?_;rotate_left
        ·rintro w' ⟨s0,s1,s2⟩;go_simp;(with_reducible rfl)
        rotate_left
        ·simp only [Act.put,qa,qz,qs,i64_w,i32_w];rfl
        refine join_ (σ:=Nat) 2 #[tt,tt,tt,tt,tt,tt,tt,tt,tt,tt,tt,tt,tt,tt,ff,ff] (fun s_=>[(33,.tuple #[.agg #[.int .i64 t209,.int .i64 t210],.bool true]),(8,.pointer (some ⟨s_,0,none⟩)),(23,.tuple #[.agg #[.int .i64 t209,.int .i64 t210],.bool true]),(34,.agg #[.int .i64 t209,.int .i64 t210]),(35,.bool true)]) (fun s_ w'=>(w'.cell? (ad207.add (x7_1).toNat)=some (.int .i64 (rd l0 x7_1))∧w'.cell? (ad208.add ((x7_1).toNat*2))=some (.int .i64 ((rd_T26 l1 x7_1).f0))∧w'.cell? ⟨(ad208.add ((x7_1).toNat*2)).block,(ad208.add ((x7_1).toNat*2)).off+1,none⟩=some (.int .i64 ((rd_T26 l1 x7_1).f1)))∧(w'.heap[gb205]?=some (.cells #[.int .i64 x206000_1,.int .i64 x206001_1] 26 (0,0)))∧(w'.heap[gb206]?=some (.cells #[.int .i64 x207000_1,.int .i64 x207001_1] 26 (0,0)))∧(w'.heap[s_]?=some (.cells #[.int .i64 0,.int .i64 0] 26 (0,0)))∧(w.heap.size≤s_)∧(w.heap.size≤s_)∧(gb205≠s_)∧(s_≠gb205)∧(gb206≠s_)∧(s_≠gb206)∧(Below w.heap.size w w')) ?_ ?_;rotate_left
        ·intro hCont;refine two_ (i:=9) (j:=13) (Ni:=some 33) (Nj:=some 8) #[tt,tt,tt,tt,tt,tt,tt,tt,tt,tt,ff,ff,ff,ff,ff,ff] #[tt,tt,tt,tt,tt,tt,tt,tt,tt,ff,ff,ff,ff,tt,ff,ff] rfl rfl rfl rfl (two_of HT_.out (by kernel_rfl)) (by decide) (by decide) (fun K hK=>?_) (fun K hK=>?_)
         ·skip
          refine gs Try.func94 #[.agg #[.int .i64 (rd l0 x7_1),.int .i64 1],.agg #[.int .i64 ((rd_T26 l1 x7_1).f0),.int .i64 ((rd_T26 l1 x7_1).f1)]] ?_;(with_reducible refine (spec_TimesRatios.calls kj6 (rd l0 x7_1) 1 ((rd_T26 l1 x7_1).f0) ((rd_T26 l1 x7_1).f1) t209 t210 true _ A13.out).mono ?_);rintro e w18 ⟨rfl,hb⟩;refine ⟨_,rfl,?_⟩;replace BK205:=aM (blk_below (g:=gb205) (o:=.cells #[.int .i64 x206000_1,.int .i64 x206001_1] 26 (0,0)) (zk BK205.out) hb);replace BK206:=aM (blk_below (g:=gb206) (o:=.cells #[.int .i64 x207000_1,.int .i64 x207001_1] 26 (0,0)) (zk BK206.out) hb);replace HB:=aM (below_step (zs HB.out) hb);(try clear hb);(try clear hb2);(try clear hk);(try clear hi);refine hK.out _ _ ⟨((HB.out.cell (World.block_lt_of_cell? w _ hw207_0)).trans hw207_0),((HB.out.cell (World.block_lt_of_cell? w _ hw208_0)).trans hw208_0),((HB.out.cell (World.block_lt_of_cell? w _ hw208_1)).trans hw208_1)⟩ (fun hHeld=>?_);clear hK K;refine norm_ (a':=?_) ?_ ?_;rotate_left
          ·show Act.put _ (some 33) _=_;simp only [Act.put,qa,qz,qs,i64_w,i32_w];rfl
          refine pu 10 (some 23) #[tt,tt,tt,tt,tt,tt,tt,tt,tt,tt,tt,ff,ff,ff,ff,ff] rfl rfl HT_ ?_;refine pu 11 (some 34) #[tt,tt,tt,tt,tt,tt,tt,tt,tt,tt,tt,tt,ff,ff,ff,ff] rfl rfl HT_ ?_;refine pu 12 (some 35) #[tt,tt,tt,tt,tt,tt,tt,tt,tt,tt,tt,tt,tt,ff,ff,ff] rfl rfl HT_ ?_;refine one_ (i:=13) (N:=some 8) #[tt,tt,tt,tt,tt,tt,tt,tt,tt,tt,tt,tt,tt,tt,ff,ff] rfl rfl (one_of HT_.out (by kernel_rfl)) (by decide) (fun K hK=>?_);refine box_step ?hg (N:=8) ?hd (cs:=#[.int .i64 0,.int .i64 0]) (t:=26) ?hr ?_;(case hd=>rfl);(case hg=>rfl);(case hr=>first|(go_simp;done)|(go_simp;rfl));intro gb212 hg w19 hbox hb;have BK212:=aM (hbox);have GW212:=aM (zg hg (zs HB.out));have GE212:=aM (zg hg (zs HB.out));replace HB:=aM (below_step (zs HB.out) hb);have NB205_212:=aM (zl hg (zk BK205.out));have NB212_205:=aM (zm hg (zk BK205.out));replace BK205:=aM (blk_below (g:=gb205) (o:=.cells #[.int .i64 x206000_1,.int .i64 x206001_1] 26 (0,0)) (zk BK205.out) hb);have NB206_212:=aM (zl hg (zk BK206.out));have NB212_206:=aM (zm hg (zk BK206.out));replace BK206:=aM (blk_below (g:=gb206) (o:=.cells #[.int .i64 x207000_1,.int .i64 x207001_1] 26 (0,0)) (zk BK206.out) hb);clear hb hbox hg;refine hK.out _ _ ⟨((HB.out.cell (World.block_lt_of_cell? w _ hw207_0)).trans hw207_0),((HB.out.cell (World.block_lt_of_cell? w _ hw208_0)).trans hw208_0),((HB.out.cell (World.block_lt_of_cell? w _ hw208_1)).trans hw208_1)⟩ (fun hHeld=>?_);clear hK K;refine norm_ (a':=?_) ?_ ?_;rotate_left
          ·show Act.put _ (some 8) _=_;simp only [Act.put,qa,qz,qs,i64_w,i32_w];rfl
          exact norm_ (by simp only [putAll,Act.put,qa,qz,qs]) (hCont (gb212) _ ⟨hHeld,(zk BK205.out),(zk BK206.out),(zk BK212.out),GW212.out,GE212.out,NB205_212.out,NB212_205.out,NB206_212.out,NB212_206.out,(zs HB.out)⟩)
         ·skip
          refine box_step ?hg (N:=8) ?hd (cs:=#[.int .i64 0,.int .i64 0]) (t:=26) ?hr ?_;(case hd=>rfl);(case hg=>rfl);(case hr=>first|(go_simp;done)|(go_simp;rfl));intro gb212 hg w18 hbox hb;have BK212:=aM (hbox);have GW212:=aM (zg hg (zs HB.out));have GE212:=aM (zg hg (zs HB.out));replace HB:=aM (below_step (zs HB.out) hb);have NB205_212:=aM (zl hg (zk BK205.out));have NB212_205:=aM (zm hg (zk BK205.out));replace BK205:=aM (blk_below (g:=gb205) (o:=.cells #[.int .i64 x206000_1,.int .i64 x206001_1] 26 (0,0)) (zk BK205.out) hb);have NB206_212:=aM (zl hg (zk BK206.out));have NB212_206:=aM (zm hg (zk BK206.out));replace BK206:=aM (blk_below (g:=gb206) (o:=.cells #[.int .i64 x207000_1,.int .i64 x207001_1] 26 (0,0)) (zk BK206.out) hb);clear hb hbox hg;refine hK.out _ _ ⟨((HB.out.cell (World.block_lt_of_cell? w _ hw207_0)).trans hw207_0),((HB.out.cell (World.block_lt_of_cell? w _ hw208_0)).trans hw208_0),((HB.out.cell (World.block_lt_of_cell? w _ hw208_1)).trans hw208_1)⟩ (fun hHeld=>?_);clear hK K;refine norm_ (a':=?_) ?_ ?_;rotate_left
          ·show Act.put _ (some 8) _=_;simp only [Act.put,qa,qz,qs,i64_w,i32_w];rfl
          refine one_ (i:=9) (N:=some 33) #[tt,tt,tt,tt,tt,tt,tt,tt,tt,tt,ff,ff,ff,tt,ff,ff] rfl rfl (one_of HT_.out (by kernel_rfl)) (by decide) (fun K hK=>?_);refine gs Try.func94 #[.agg #[.int .i64 (rd l0 x7_1),.int .i64 1],.agg #[.int .i64 ((rd_T26 l1 x7_1).f0),.int .i64 ((rd_T26 l1 x7_1).f1)]] ?_;(with_reducible refine (spec_TimesRatios.calls kj6 (rd l0 x7_1) 1 ((rd_T26 l1 x7_1).f0) ((rd_T26 l1 x7_1).f1) t209 t210 true _ A13.out).mono ?_);rintro e w19 ⟨rfl,hb⟩;refine ⟨_,rfl,?_⟩;replace BK205:=aM (blk_below (g:=gb205) (o:=.cells #[.int .i64 x206000_1,.int .i64 x206001_1] 26 (0,0)) (zk BK205.out) hb);replace BK206:=aM (blk_below (g:=gb206) (o:=.cells #[.int .i64 x207000_1,.int .i64 x207001_1] 26 (0,0)) (zk BK206.out) hb);replace BK212:=aM (blk_below (g:=gb212) (o:=.cells #[.int .i64 0,.int .i64 0] 26 (0,0)) (zk BK212.out) hb);replace HB:=aM (below_step (zs HB.out) hb);(try clear hb);(try clear hb2);(try clear hk);(try clear hi);refine hK.out _ _ ⟨((HB.out.cell (World.block_lt_of_cell? w _ hw207_0)).trans hw207_0),((HB.out.cell (World.block_lt_of_cell? w _ hw208_0)).trans hw208_0),((HB.out.cell (World.block_lt_of_cell? w _ hw208_1)).trans hw208_1)⟩ (fun hHeld=>?_);clear hK K;refine norm_ (a':=?_) ?_ ?_;rotate_left
          ·show Act.put _ (some 33) _=_;simp only [Act.put,qa,qz,qs,i64_w,i32_w];rfl
          refine pu 10 (some 23) #[tt,tt,tt,tt,tt,tt,tt,tt,tt,tt,tt,ff,ff,tt,ff,ff] rfl rfl HT_ ?_;refine pu 11 (some 34) #[tt,tt,tt,tt,tt,tt,tt,tt,tt,tt,tt,tt,ff,tt,ff,ff] rfl rfl HT_ ?_;refine pu 12 (some 35) #[tt,tt,tt,tt,tt,tt,tt,tt,tt,tt,tt,tt,tt,tt,ff,ff] rfl rfl HT_ ?_;exact norm_ (by simp only [putAll,Act.put,qa,qz,qs]) (hCont (gb212) _ ⟨hHeld,(zk BK205.out),(zk BK206.out),(zk BK212.out),GW212.out,GE212.out,NB205_212.out,NB212_205.out,NB206_212.out,NB212_206.out,(zs HB.out)⟩)
        rintro gb212 w20 ⟨hS_,h0_,h1_,h2_,h3_,h4_,h5_,h6_,h7_,h8_,h9_⟩;replace BK205:Aside0 (w20.heap[gb205]?=some (.cells #[.int .i64 x206000_1,.int .i64 x206001_1] 26 (0,0))):=⟨h0_⟩;replace BK206:Aside0 (w20.heap[gb206]?=some (.cells #[.int .i64 x207000_1,.int .i64 x207001_1] 26 (0,0))):=⟨h1_⟩;have BK212:Aside0 (w20.heap[gb212]?=some (.cells #[.int .i64 0,.int .i64 0] 26 (0,0))):=⟨h2_⟩;have GW212:Aside0 (w.heap.size≤gb212):=⟨h3_⟩;have GE212:Aside0 (w.heap.size≤gb212):=⟨h4_⟩;have NB205_212:Aside0 (gb205≠gb212):=⟨h5_⟩;have NB212_205:Aside0 (gb212≠gb205):=⟨h6_⟩;have NB206_212:Aside0 (gb206≠gb212):=⟨h7_⟩;have NB212_206:Aside0 (gb212≠gb206):=⟨h8_⟩;replace HB:Aside0 (Below w.heap.size w w20):=⟨h9_⟩;clear h0_ h1_ h2_ h3_ h4_ h5_ h6_ h7_ h8_ h9_;have hHeld:w20.cell? (ad207.add (x7_1).toNat)=some (.int .i64 (rd l0 x7_1))∧w20.cell? (ad208.add ((x7_1).toNat*2))=some (.int .i64 ((rd_T26 l1 x7_1).f0))∧w20.cell? ⟨(ad208.add ((x7_1).toNat*2)).block,(ad208.add ((x7_1).toNat*2)).off+1,none⟩=some (.int .i64 ((rd_T26 l1 x7_1).f1)):=hS_;refine norm_ (a':=?_) ?_ ?_;rotate_left
        ·simp only [putAll,Act.put,qa,qz,qs];rfl
        refine one_ (i:=14) (N:=none) #[tt,tt,tt,tt,tt,tt,tt,tt,tt,tt,tt,tt,tt,tt,tt,ff] rfl rfl (one_of HT_.out (by kernel_rfl)) (by decide) (fun K hK=>?_);have hs21:w20.cell? ⟨gb212,0,none⟩=some (.int .i64 0):=(blk_cell BK212.out 0).trans rfl;have hfs21:=blk_frozen BK212.out 0;have hns21_0:=NB205_212.out;have hns21_1:=NB206_212.out;have hms21_0:=NB212_205.out;have hms21_1:=NB212_206.out;have hs22:w20.cell? ⟨gb212,1,none⟩=some (.int .i64 0):=(blk_cell BK212.out 1).trans rfl;have hfs22:=blk_frozen BK212.out 1;have hns22_0:=NB205_212.out;have hns22_1:=NB206_212.out;have hms22_0:=NB212_205.out;have hms22_1:=NB212_206.out;refine skip_ (w1:=?_) (by rfl) rfl ?_ ?_;rotate_left
        ·go_simp;rfl
        refine hK.out _ _ ⟨((cell_far (p:=⟨gb212,_,none⟩) (by first|exact Nat.ne_of_lt (Nat.lt_of_lt_of_le (by have:=World.block_lt_of_cell? _ _ hw207_0;first|rwa [add_block] at this|exact this) GW212.out)|(rw [add_block];exact Nat.ne_of_lt (Nat.lt_of_lt_of_le (by have:=World.block_lt_of_cell? _ _ hw207_0;first|rwa [add_block] at this|exact this) GW212.out))|(show (Addr.add _ _).block≠_;rw [add_block];exact Nat.ne_of_lt (Nat.lt_of_lt_of_le (by have:=World.block_lt_of_cell? _ _ hw207_0;first|rwa [add_block] at this|exact this) GW212.out))|(dsimp only;exact Nat.ne_of_lt (Nat.lt_of_lt_of_le (by have:=World.block_lt_of_cell? _ _ hw207_0;first|rwa [add_block] at this|exact this) GW212.out))) _).trans (((cell_far (p:=⟨gb212,_,none⟩) (by first|exact Nat.ne_of_lt (Nat.lt_of_lt_of_le (by have:=World.block_lt_of_cell? _ _ hw207_0;first|rwa [add_block] at this|exact this) GW212.out)|(rw [add_block];exact Nat.ne_of_lt (Nat.lt_of_lt_of_le (by have:=World.block_lt_of_cell? _ _ hw207_0;first|rwa [add_block] at this|exact this) GW212.out))|(show (Addr.add _ _).block≠_;rw [add_block];exact Nat.ne_of_lt (Nat.lt_of_lt_of_le (by have:=World.block_lt_of_cell? _ _ hw207_0;first|rwa [add_block] at this|exact this) GW212.out))|(dsimp only;exact Nat.ne_of_lt (Nat.lt_of_lt_of_le (by have:=World.block_lt_of_cell? _ _ hw207_0;first|rwa [add_block] at this|exact this) GW212.out))) _).trans (hHeld.1)))),((cell_far (p:=⟨gb212,_,none⟩) (by first|exact Nat.ne_of_lt (Nat.lt_of_lt_of_le (by have:=World.block_lt_of_cell? _ _ hw208_0;first|rwa [add_block] at this|exact this) GW212.out)|(rw [add_block];exact Nat.ne_of_lt (Nat.lt_of_lt_of_le (by have:=World.block_lt_of_cell? _ _ hw208_0;first|rwa [add_block] at this|exact this) GW212.out))|(show (Addr.add _ _).block≠_;rw [add_block];exact Nat.ne_of_lt (Nat.lt_of_lt_of_le (by have:=World.block_lt_of_cell? _ _ hw208_0;first|rwa [add_block] at this|exact this) GW212.out))|(dsimp only;exact Nat.ne_of_lt (Nat.lt_of_lt_of_le (by have:=World.block_lt_of_cell? _ _ hw208_0;first|rwa [add_block] at this|exact this) GW212.out))) _).trans (((cell_far (p:=⟨gb212,_,none⟩) (by first|exact Nat.ne_of_lt (Nat.lt_of_lt_of_le (by have:=World.block_lt_of_cell? _ _ hw208_0;first|rwa [add_block] at this|exact this) GW212.out)|(rw [add_block];exact Nat.ne_of_lt (Nat.lt_of_lt_of_le (by have:=World.block_lt_of_cell? _ _ hw208_0;first|rwa [add_block] at this|exact this) GW212.out))|(show (Addr.add _ _).block≠_;rw [add_block];exact Nat.ne_of_lt (Nat.lt_of_lt_of_le (by have:=World.block_lt_of_cell? _ _ hw208_0;first|rwa [add_block] at this|exact this) GW212.out))|(dsimp only;exact Nat.ne_of_lt (Nat.lt_of_lt_of_le (by have:=World.block_lt_of_cell? _ _ hw208_0;first|rwa [add_block] at this|exact this) GW212.out))) _).trans (hHeld.2.1)))),((cell_far (p:=⟨gb212,_,none⟩) (by first|exact Nat.ne_of_lt (Nat.lt_of_lt_of_le (by have:=World.block_lt_of_cell? _ _ hw208_1;first|rwa [add_block] at this|exact this) GW212.out)|(rw [add_block];exact Nat.ne_of_lt (Nat.lt_of_lt_of_le (by have:=World.block_lt_of_cell? _ _ hw208_1;first|rwa [add_block] at this|exact this) GW212.out))|(show (Addr.add _ _).block≠_;rw [add_block];exact Nat.ne_of_lt (Nat.lt_of_lt_of_le (by have:=World.block_lt_of_cell? _ _ hw208_1;first|rwa [add_block] at this|exact this) GW212.out))|(dsimp only;exact Nat.ne_of_lt (Nat.lt_of_lt_of_le (by have:=World.block_lt_of_cell? _ _ hw208_1;first|rwa [add_block] at this|exact this) GW212.out))) _).trans (((cell_far (p:=⟨gb212,_,none⟩) (by first|exact Nat.ne_of_lt (Nat.lt_of_lt_of_le (by have:=World.block_lt_of_cell? _ _ hw208_1;first|rwa [add_block] at this|exact this) GW212.out)|(rw [add_block];exact Nat.ne_of_lt (Nat.lt_of_lt_of_le (by have:=World.block_lt_of_cell? _ _ hw208_1;first|rwa [add_block] at this|exact this) GW212.out))|(show (Addr.add _ _).block≠_;rw [add_block];exact Nat.ne_of_lt (Nat.lt_of_lt_of_le (by have:=World.block_lt_of_cell? _ _ hw208_1;first|rwa [add_block] at this|exact this) GW212.out))|(dsimp only;exact Nat.ne_of_lt (Nat.lt_of_lt_of_le (by have:=World.block_lt_of_cell? _ _ hw208_1;first|rwa [add_block] at this|exact this) GW212.out))) _).trans (hHeld.2.2))))⟩ (fun hHeld=>?_);clear hK K;refine pu 15 (some 9) #[tt,tt,tt,tt,tt,tt,tt,tt,tt,tt,tt,tt,tt,tt,tt,tt] rfl rfl HT_ ?_;refine done_ (done_of HT_.out (by kernel_rfl)) ?_;have hnb23:=NB206_205.out;have hnc23:=NB205_206.out;have hnb24:=NB206_212.out;have hnc24:=NB212_206.out;have hcz25_0:w20.cell? ⟨gb206,0,none⟩=some (.int .i64 x207000_1):=(blk_cell BK206.out 0).trans rfl;have hcz25_1:w20.cell? ⟨gb206,1,none⟩=some (.int .i64 x207001_1):=(blk_cell BK206.out 1).trans rfl;have hfz25_0:=blk_frozen BK206.out 0;have hfz25_1:=blk_frozen BK206.out 1;have hnb26:=NB212_205.out;have hnc26:=NB205_212.out;have hcz27_0:w20.cell? ⟨gb212,0,none⟩=some (.int .i64 0):=(blk_cell BK212.out 0).trans rfl;have hcz27_1:w20.cell? ⟨gb212,1,none⟩=some (.int .i64 0):=(blk_cell BK212.out 1).trans rfl;have hfz27_0:=blk_frozen BK212.out 0;have hfz27_1:=blk_frozen BK212.out 1;(try go_wp2_with (first|((with_reducible refine gate_callee (f:=79) rfl ?_);refine gm (some 42) Try.func79 #[.agg #[.int .i64 x207000_1,.int .i64 x207001_1],.agg #[.int .i64 t209,.int .i64 t210]] ?_;(with_reducible refine (spec_AddRatios.calls kj6 x207000_1 x207001_1 t209 t210 t213 t214 true _ A15.out).mono ?_);rintro e w28 ⟨rfl,hb⟩;refine ⟨_,rfl,?_⟩;replace BK205:=aM (blk_below (g:=gb205) (o:=.cells #[.int .i64 x206000_1,.int .i64 x206001_1] 26 (0,0)) (by (with_reducible repeat (first|refine blk_drewN ?_ _|refine blk_drew ?_|refine blk_alloc ?_ _));refine blk_far ?_ NB205_212.out _;(with_reducible repeat (first|refine blk_drewN ?_ _|refine blk_drew ?_|refine blk_alloc ?_ _));refine blk_far ?_ NB205_212.out _;(with_reducible repeat (first|refine blk_drewN ?_ _|refine blk_drew ?_|refine blk_alloc ?_ _));exact BK205.out) hb);replace BK206:=aM (blk_below (g:=gb206) (o:=.cells #[.int .i64 x207000_1,.int .i64 x207001_1] 26 (0,0)) (by (with_reducible repeat (first|refine blk_drewN ?_ _|refine blk_drew ?_|refine blk_alloc ?_ _));refine blk_far ?_ NB206_212.out _;(with_reducible repeat (first|refine blk_drewN ?_ _|refine blk_drew ?_|refine blk_alloc ?_ _));refine blk_far ?_ NB206_212.out _;(with_reducible repeat (first|refine blk_drewN ?_ _|refine blk_drew ?_|refine blk_alloc ?_ _));exact BK206.out) hb);replace BK212:=aM (blk_below (g:=gb212) (o:=.cells #[.int .i64 t209,.int .i64 t210] 26 (0,0)) (by (with_reducible repeat (first|refine blk_drewN ?_ _|refine blk_drew ?_|refine blk_alloc ?_ _));refine blk_put (cs:=#[.int .i64 t209,.int .i64 0]) ?_ 1 _ rfl;(with_reducible repeat (first|refine blk_drewN ?_ _|refine blk_drew ?_|refine blk_alloc ?_ _));refine blk_put (cs:=#[.int .i64 0,.int .i64 0]) ?_ 0 _ rfl;(with_reducible repeat (first|refine blk_drewN ?_ _|refine blk_drew ?_|refine blk_alloc ?_ _));exact BK212.out) hb);replace HB:=aM (below_step (zs HB.out) hb);(try clear hb);(try clear hb2);(try clear hk);(try clear hi);have hcz29_0:w28.cell? ⟨gb206,0,none⟩=some (.int .i64 x207000_1):=(blk_cell BK206.out 0).trans rfl;have hcz29_1:w28.cell? ⟨gb206,1,none⟩=some (.int .i64 x207001_1):=(blk_cell BK206.out 1).trans rfl;have hfz29_0:=blk_frozen BK206.out 0;have hfz29_1:=blk_frozen BK206.out 1)));go_roundg kj6;(case measure=>have:=HK1.out;have:=HJ6.out;omega);(case rel=>exact ⟨(wrap64 (x7_1+1)),(x206000_1),(x206001_1),(t213),(t214),zt,H',⟨by have:=HK1.out;have:=HJ6.out;omega⟩,⟨by (with_reducible repeat (first|refine blk_drewN ?_ _|refine blk_drew ?_|refine blk_alloc ?_ _));refine blk_far ?_ NB205_206.out _;(with_reducible repeat (first|refine blk_drewN ?_ _|refine blk_drew ?_|refine blk_alloc ?_ _));refine blk_far ?_ NB205_206.out _;(with_reducible repeat (first|refine blk_drewN ?_ _|refine blk_drew ?_|refine blk_alloc ?_ _));exact BK205.out⟩,⟨by (with_reducible repeat (first|refine blk_drewN ?_ _|refine blk_drew ?_|refine blk_alloc ?_ _));refine blk_put (cs:=#[.int .i64 t213,.int .i64 x207001_1]) ?_ 1 _ rfl;(with_reducible repeat (first|refine blk_drewN ?_ _|refine blk_drew ?_|refine blk_alloc ?_ _));refine blk_put (cs:=#[.int .i64 x207000_1,.int .i64 x207001_1]) ?_ 0 _ rfl;(with_reducible repeat (first|refine blk_drewN ?_ _|refine blk_drew ?_|refine blk_alloc ?_ _));exact BK206.out⟩,⟨zs HB.out⟩⟩)
       ·replace c16:=Bool.eq_false_iff.mpr c16;subst c16;replace H:=ifF H;simp only [Option.some.injEq,Prod.mk.injEq] at H;obtain ⟨rfl,rfl,rfl⟩:=H;(try go_wp2);replace BK205:=aM (blk_drew BK205.out);replace BK206:=aM (blk_drew BK206.out);replace HB:=aM (below_drew1 HB.out);have p207:0≤(x7_1:Int):=zd;have q207:x7_1<(l0.length:Int):=zd;obtain ⟨ad207,e207,hx207_0⟩:=Kd.at_int HR0.out x7_1 p207 q207;have hw207_0:=hx207_0;cases e207;replace hx207_0:=(HB.out.cell (World.block_lt_of_cell? w _ hx207_0)).trans hx207_0;replace p207:=eq_true p207;replace q207:=eq_true q207;have p208:0≤(x7_1:Int):=zd;have q208:x7_1<(l1.length:Int):=zd;obtain ⟨ad208,e208,hx208_0,hx208_1⟩:=at_T26 HR1.out x7_1 p208 q208;have hw208_1:=hx208_1;have hw208_0:=hx208_0;cases e208;replace hx208_0:=(HB.out.cell (World.block_lt_of_cell? w _ hx208_0)).trans hx208_0;replace hx208_1:=(HB.out.cell (World.block_lt_of_cell? w _ hx208_1)).trans hx208_1;replace p208:=eq_true p208;replace q208:=eq_true q208;refine start_ (n:=16) (S:=fun w'=>w'.cell? (ad207.add (x7_1).toNat)=some (.int .i64 (rd l0 x7_1))∧w'.cell? (ad208.add ((x7_1).toNat*2))=some (.int .i64 ((rd_T26 l1 x7_1).f0))∧w'.cell? ⟨(ad208.add ((x7_1).toNat*2)).block,(ad208.add ((x7_1).toNat*2)).off+1,none⟩=some (.int .i64 ((rd_T26 l1 x7_1).f1))) (ds:=[]) #[ff,ff,ff,ff,ff,ff,ff,ff,ff,ff,ff,ff,ff,ff,ff,ff] (by kernel_rfl) rfl rfl ⟨((HB.out.cell (World.block_lt_of_cell? w _ hw207_0)).trans hw207_0),((HB.out.cell (World.block_lt_of_cell? w _ hw208_0)).trans hw208_0),((HB.out.cell (World.block_lt_of_cell? w _ hw208_1)).trans hw208_1)⟩ (fun hHeld=>?_);refine with_tabW spec_l6Dot.tab5 spec_l6Dot.bits5 (fun HT_ HW_=>?_);generalize wc.drew=w30 at BK205 BK206 HB hx207_0 hx208_0 hx208_1 hHeld ⊢;refine pu 0 (some 24) #[tt,ff,ff,ff,ff,ff,ff,ff,ff,ff,ff,ff,ff,ff,ff,ff] rfl rfl HT_ ?_;refine pu 1 (some 25) #[tt,tt,ff,ff,ff,ff,ff,ff,ff,ff,ff,ff,ff,ff,ff,ff] rfl rfl HT_ ?_;refine pu 2 (some 26) #[tt,tt,tt,ff,ff,ff,ff,ff,ff,ff,ff,ff,ff,ff,ff,ff] rfl rfl HT_ ?_;refine pu 5 (some 29) #[tt,tt,tt,ff,ff,tt,ff,ff,ff,ff,ff,ff,ff,ff,ff,ff] rfl rfl HT_ ?_;refine pu 6 (some 30) #[tt,tt,tt,ff,ff,tt,tt,ff,ff,ff,ff,ff,ff,ff,ff,ff] rfl rfl HT_ ?_;refine pu 7 (some 31) #[tt,tt,tt,ff,ff,tt,tt,tt,ff,ff,ff,ff,ff,ff,ff,ff] rfl rfl HT_ ?_;refine take_ (i:=3) (N:=some 27) (v:=?_) (a':=?_) #[tt,tt,tt,tt,ff,tt,tt,tt,ff,ff,ff,ff,ff,ff,ff,ff] rfl rfl (take_ofW HT_.out HW_.out (by kernel_rfl)) (fun _ _ _ h=>h) (Or.inl ⟨by rfl,?_⟩) hHeld ?_ ?_;rotate_left
        ·rintro w' ⟨s0,s1,s2⟩;go_simp;(with_reducible rfl)
        rotate_left
        ·simp only [Act.put,qa,qz,qs,i64_w,i32_w];rfl
        refine pu 4 (some 28) #[tt,tt,tt,tt,tt,tt,tt,tt,ff,ff,ff,ff,ff,ff,ff,ff] rfl rfl HT_ ?_;refine take_ (i:=8) (N:=some 32) (v:=?_) (a':=?_) #[tt,tt,tt,tt,tt,tt,tt,tt,tt,ff,ff,ff,ff,ff,ff,ff] rfl rfl (take_ofW HT_.out HW_.out (by kernel_rfl)) (fun _ _ _ h=>h) (Or.inl ⟨by rfl,?_⟩) hHeld ?_ ?_;rotate_left
        ·rintro w' ⟨s0,s1,s2⟩;go_simp;(with_reducible rfl)
        rotate_left
        ·simp only [Act.put,qa,qz,qs,i64_w,i32_w];rfl
        refine join_ (σ:=Nat) 2 #[tt,tt,tt,tt,tt,tt,tt,tt,tt,tt,tt,tt,tt,tt,ff,ff] (fun s_=>[(33,.tuple #[.agg #[.int .i64 t209,.int .i64 t210],.bool true]),(8,.pointer (some ⟨s_,0,none⟩)),(23,.tuple #[.agg #[.int .i64 t209,.int .i64 t210],.bool true]),(34,.agg #[.int .i64 t209,.int .i64 t210]),(35,.bool true)]) (fun s_ w'=>(w'.cell? (ad207.add (x7_1).toNat)=some (.int .i64 (rd l0 x7_1))∧w'.cell? (ad208.add ((x7_1).toNat*2))=some (.int .i64 ((rd_T26 l1 x7_1).f0))∧w'.cell? ⟨(ad208.add ((x7_1).toNat*2)).block,(ad208.add ((x7_1).toNat*2)).off+1,none⟩=some (.int .i64 ((rd_T26 l1 x7_1).f1)))∧(w'.heap[gb205]?=some (.cells #[.int .i64 x206000_1,.int .i64 x206001_1] 26 (0,0)))∧(w'.heap[gb206]?=some (.cells #[.int .i64 x207000_1,.int .i64 x207001_1] 26 (0,0)))∧(w'.heap[s_]?=some (.cells #[.int .i64 0,.int .i64 0] 26 (0,0)))∧(w.heap.size≤s_)∧(w.heap.size≤s_)∧(gb205≠s_)∧(s_≠gb205)∧(gb206≠s_)∧(s_≠gb206)∧(Below w.heap.size w w')) ?_ ?_;rotate_left
        ·intro hCont;refine two_ (i:=9) (j:=13) (Ni:=some 33) (Nj:=some 8) #[tt,tt,tt,tt,tt,tt,tt,tt,tt,tt,ff,ff,ff,ff,ff,ff] #[tt,tt,tt,tt,tt,tt,tt,tt,tt,ff,ff,ff,ff,tt,ff,ff] rfl rfl rfl rfl (two_of HT_.out (by kernel_rfl)) (by decide) (by decide) (fun K hK=>?_) (fun K hK=>?_)
         ·skip
          refine gs Try.func94 #[.agg #[.int .i64 (rd l0 x7_1),.int .i64 1],.agg #[.int .i64 ((rd_T26 l1 x7_1).f0),.int .i64 ((rd_T26 l1 x7_1).f1)]] ?_;(with_reducible refine (spec_TimesRatios.calls kj6 (rd l0 x7_1) 1 ((rd_T26 l1 x7_1).f0) ((rd_T26 l1 x7_1).f1) t209 t210 true _ A13.out).mono ?_);rintro e w31 ⟨rfl,hb⟩;refine ⟨_,rfl,?_⟩;replace BK205:=aM (blk_below (g:=gb205) (o:=.cells #[.int .i64 x206000_1,.int .i64 x206001_1] 26 (0,0)) (zk BK205.out) hb);replace BK206:=aM (blk_below (g:=gb206) (o:=.cells #[.int .i64 x207000_1,.int .i64 x207001_1] 26 (0,0)) (zk BK206.out) hb);replace HB:=aM (below_step (zs HB.out) hb);(try clear hb);(try clear hb2);(try clear hk);(try clear hi);refine hK.out _ _ ⟨((HB.out.cell (World.block_lt_of_cell? w _ hw207_0)).trans hw207_0),((HB.out.cell (World.block_lt_of_cell? w _ hw208_0)).trans hw208_0),((HB.out.cell (World.block_lt_of_cell? w _ hw208_1)).trans hw208_1)⟩ (fun hHeld=>?_);clear hK K;refine norm_ (a':=?_) ?_ ?_;rotate_left
          ·show Act.put _ (some 33) _=_;simp only [Act.put,qa,qz,qs,i64_w,i32_w];rfl
          refine pu 10 (some 23) #[tt,tt,tt,tt,tt,tt,tt,tt,tt,tt,tt,ff,ff,ff,ff,ff] rfl rfl HT_ ?_;refine pu 11 (some 34) #[tt,tt,tt,tt,tt,tt,tt,tt,tt,tt,tt,tt,ff,ff,ff,ff] rfl rfl HT_ ?_;refine pu 12 (some 35) #[tt,tt,tt,tt,tt,tt,tt,tt,tt,tt,tt,tt,tt,ff,ff,ff] rfl rfl HT_ ?_;refine one_ (i:=13) (N:=some 8) #[tt,tt,tt,tt,tt,tt,tt,tt,tt,tt,tt,tt,tt,tt,ff,ff] rfl rfl (one_of HT_.out (by kernel_rfl)) (by decide) (fun K hK=>?_);refine box_step ?hg (N:=8) ?hd (cs:=#[.int .i64 0,.int .i64 0]) (t:=26) ?hr ?_;(case hd=>rfl);(case hg=>rfl);(case hr=>first|(go_simp;done)|(go_simp;rfl));intro gb212 hg w32 hbox hb;have BK212:=aM (hbox);have GW212:=aM (zg hg (zs HB.out));have GE212:=aM (zg hg (zs HB.out));replace HB:=aM (below_step (zs HB.out) hb);have NB205_212:=aM (zl hg (zk BK205.out));have NB212_205:=aM (zm hg (zk BK205.out));replace BK205:=aM (blk_below (g:=gb205) (o:=.cells #[.int .i64 x206000_1,.int .i64 x206001_1] 26 (0,0)) (zk BK205.out) hb);have NB206_212:=aM (zl hg (zk BK206.out));have NB212_206:=aM (zm hg (zk BK206.out));replace BK206:=aM (blk_below (g:=gb206) (o:=.cells #[.int .i64 x207000_1,.int .i64 x207001_1] 26 (0,0)) (zk BK206.out) hb);clear hb hbox hg;refine hK.out _ _ ⟨((HB.out.cell (World.block_lt_of_cell? w _ hw207_0)).trans hw207_0),((HB.out.cell (World.block_lt_of_cell? w _ hw208_0)).trans hw208_0),((HB.out.cell (World.block_lt_of_cell? w _ hw208_1)).trans hw208_1)⟩ (fun hHeld=>?_);clear hK K;refine norm_ (a':=?_) ?_ ?_;rotate_left
          ·show Act.put _ (some 8) _=_;simp only [Act.put,qa,qz,qs,i64_w,i32_w];rfl
          exact norm_ (by simp only [putAll,Act.put,qa,qz,qs]) (hCont (gb212) _ ⟨hHeld,(zk BK205.out),(zk BK206.out),(zk BK212.out),GW212.out,GE212.out,NB205_212.out,NB212_205.out,NB206_212.out,NB212_206.out,(zs HB.out)⟩)
         ·skip
          refine box_step ?hg (N:=8) ?hd (cs:=#[.int .i64 0,.int .i64 0]) (t:=26) ?hr ?_;(case hd=>rfl);(case hg=>rfl);(case hr=>first|(go_simp;done)|(go_simp;rfl));intro gb212 hg w31 hbox hb;have BK212:=aM (hbox);have GW212:=aM (zg hg (zs HB.out));have GE212:=aM (zg hg (zs HB.out));replace HB:=aM (below_step (zs HB.out) hb);have NB205_212:=aM (zl hg (zk BK205.out));have NB212_205:=aM (zm hg (zk BK205.out));replace BK205:=aM (blk_below (g:=gb205) (o:=.cells #[.int .i64 x206000_1,.int .i64 x206001_1] 26 (0,0)) (zk BK205.out) hb);have NB206_212:=aM (zl hg (zk BK206.out));have NB212_206:=aM (zm hg (zk BK206.out));replace BK206:=aM (blk_below (g:=gb206) (o:=.cells #[.int .i64 x207000_1,.int .i64 x207001_1] 26 (0,0)) (zk BK206.out) hb);clear hb hbox hg;refine hK.out _ _ ⟨((HB.out.cell (World.block_lt_of_cell? w _ hw207_0)).trans hw207_0),((HB.out.cell (World.block_lt_of_cell? w _ hw208_0)).trans hw208_0),((HB.out.cell (World.block_lt_of_cell? w _ hw208_1)).trans hw208_1)⟩ (fun hHeld=>?_);clear hK K;refine norm_ (a':=?_) ?_ ?_;rotate_left
          ·show Act.put _ (some 8) _=_;simp only [Act.put,qa,qz,qs,i64_w,i32_w];rfl
          refine one_ (i:=9) (N:=some 33) #[tt,tt,tt,tt,tt,tt,tt,tt,tt,tt,ff,ff,ff,tt,ff,ff] rfl rfl (one_of HT_.out (by kernel_rfl)) (by decide) (fun K hK=>?_);refine gs Try.func94 #[.agg #[.int .i64 (rd l0 x7_1),.int .i64 1],.agg #[.int .i64 ((rd_T26 l1 x7_1).f0),.int .i64 ((rd_T26 l1 x7_1).f1)]] ?_;(with_reducible refine (spec_TimesRatios.calls kj6 (rd l0 x7_1) 1 ((rd_T26 l1 x7_1).f0) ((rd_T26 l1 x7_1).f1) t209 t210 true _ A13.out).mono ?_);rintro e w32 ⟨rfl,hb⟩;refine ⟨_,rfl,?_⟩;replace BK205:=aM (blk_below (g:=gb205) (o:=.cells #[.int .i64 x206000_1,.int .i64 x206001_1] 26 (0,0)) (zk BK205.out) hb);replace BK206:=aM (blk_below (g:=gb206) (o:=.cells #[.int .i64 x207000_1,.int .i64 x207001_1] 26 (0,0)) (zk BK206.out) hb);replace BK212:=aM (blk_below (g:=gb212) (o:=.cells #[.int .i64 0,.int .i64 0] 26 (0,0)) (zk BK212.out) hb);replace HB:=aM (below_step (zs HB.out) hb);(try clear hb);(try clear hb2);(try clear hk);(try clear hi);refine hK.out _ _ ⟨((HB.out.cell (World.block_lt_of_cell? w _ hw207_0)).trans hw207_0),((HB.out.cell (World.block_lt_of_cell? w _ hw208_0)).trans hw208_0),((HB.out.cell (World.block_lt_of_cell? w _ hw208_1)).trans hw208_1)⟩ (fun hHeld=>?_);clear hK K;refine norm_ (a':=?_) ?_ ?_;rotate_left
          ·show Act.put _ (some 33) _=_;simp only [Act.put,qa,qz,qs,i64_w,i32_w];rfl
          refine pu 10 (some 23) #[tt,tt,tt,tt,tt,tt,tt,tt,tt,tt,tt,ff,ff,tt,ff,ff] rfl rfl HT_ ?_;refine pu 11 (some 34) #[tt,tt,tt,tt,tt,tt,tt,tt,tt,tt,tt,tt,ff,tt,ff,ff] rfl rfl HT_ ?_;refine pu 12 (some 35) #[tt,tt,tt,tt,tt,tt,tt,tt,tt,tt,tt,tt,tt,tt,ff,ff] rfl rfl HT_ ?_;exact norm_ (by simp only [putAll,Act.put,qa,qz,qs]) (hCont (gb212) _ ⟨hHeld,(zk BK205.out),(zk BK206.out),(zk BK212.out),GW212.out,GE212.out,NB205_212.out,NB212_205.out,NB206_212.out,NB212_206.out,(zs HB.out)⟩)
        rintro gb212 w33 ⟨hS_,h0_,h1_,h2_,h3_,h4_,h5_,h6_,h7_,h8_,h9_⟩;replace BK205:Aside0 (w33.heap[gb205]?=some (.cells #[.int .i64 x206000_1,.int .i64 x206001_1] 26 (0,0))):=⟨h0_⟩;replace BK206:Aside0 (w33.heap[gb206]?=some (.cells #[.int .i64 x207000_1,.int .i64 x207001_1] 26 (0,0))):=⟨h1_⟩;have BK212:Aside0 (w33.heap[gb212]?=some (.cells #[.int .i64 0,.int .i64 0] 26 (0,0))):=⟨h2_⟩;have GW212:Aside0 (w.heap.size≤gb212):=⟨h3_⟩;have GE212:Aside0 (w.heap.size≤gb212):=⟨h4_⟩;have NB205_212:Aside0 (gb205≠gb212):=⟨h5_⟩;have NB212_205:Aside0 (gb212≠gb205):=⟨h6_⟩;have NB206_212:Aside0 (gb206≠gb212):=⟨h7_⟩;have NB212_206:Aside0 (gb212≠gb206):=⟨h8_⟩;replace HB:Aside0 (Below w.heap.size w w33):=⟨h9_⟩;clear h0_ h1_ h2_ h3_ h4_ h5_ h6_ h7_ h8_ h9_;have hHeld:w33.cell? (ad207.add (x7_1).toNat)=some (.int .i64 (rd l0 x7_1))∧w33.cell? (ad208.add ((x7_1).toNat*2))=some (.int .i64 ((rd_T26 l1 x7_1).f0))∧w33.cell? ⟨(ad208.add ((x7_1).toNat*2)).block,(ad208.add ((x7_1).toNat*2)).off+1,none⟩=some (.int .i64 ((rd_T26 l1 x7_1).f1)):=hS_;refine norm_ (a':=?_) ?_ ?_;rotate_left
        ·simp only [putAll,Act.put,qa,qz,qs];rfl
        refine one_ (i:=14) (N:=none) #[tt,tt,tt,tt,tt,tt,tt,tt,tt,tt,tt,tt,tt,tt,tt,ff] rfl rfl (one_of HT_.out (by kernel_rfl)) (by decide) (fun K hK=>?_);have hs34:w33.cell? ⟨gb212,0,none⟩=some (.int .i64 0):=(blk_cell BK212.out 0).trans rfl;have hfs34:=blk_frozen BK212.out 0;have hns34_0:=NB205_212.out;have hns34_1:=NB206_212.out;have hms34_0:=NB212_205.out;have hms34_1:=NB212_206.out;have hs35:w33.cell? ⟨gb212,1,none⟩=some (.int .i64 0):=(blk_cell BK212.out 1).trans rfl;have hfs35:=blk_frozen BK212.out 1;have hns35_0:=NB205_212.out;have hns35_1:=NB206_212.out;have hms35_0:=NB212_205.out;have hms35_1:=NB212_206.out;refine skip_ (w1:=?_) (by rfl) rfl ?_ ?_;rotate_left
        ·go_simp;rfl
        refine hK.out _ _ ⟨((cell_far (p:=⟨gb212,_,none⟩) (by first|exact Nat.ne_of_lt (Nat.lt_of_lt_of_le (by have:=World.block_lt_of_cell? _ _ hw207_0;first|rwa [add_block] at this|exact this) GW212.out)|(rw [add_block];exact Nat.ne_of_lt (Nat.lt_of_lt_of_le (by have:=World.block_lt_of_cell? _ _ hw207_0;first|rwa [add_block] at this|exact this) GW212.out))|(show (Addr.add _ _).block≠_;rw [add_block];exact Nat.ne_of_lt (Nat.lt_of_lt_of_le (by have:=World.block_lt_of_cell? _ _ hw207_0;first|rwa [add_block] at this|exact this) GW212.out))|(dsimp only;exact Nat.ne_of_lt (Nat.lt_of_lt_of_le (by have:=World.block_lt_of_cell? _ _ hw207_0;first|rwa [add_block] at this|exact this) GW212.out))) _).trans (((cell_far (p:=⟨gb212,_,none⟩) (by first|exact Nat.ne_of_lt (Nat.lt_of_lt_of_le (by have:=World.block_lt_of_cell? _ _ hw207_0;first|rwa [add_block] at this|exact this) GW212.out)|(rw [add_block];exact Nat.ne_of_lt (Nat.lt_of_lt_of_le (by have:=World.block_lt_of_cell? _ _ hw207_0;first|rwa [add_block] at this|exact this) GW212.out))|(show (Addr.add _ _).block≠_;rw [add_block];exact Nat.ne_of_lt (Nat.lt_of_lt_of_le (by have:=World.block_lt_of_cell? _ _ hw207_0;first|rwa [add_block] at this|exact this) GW212.out))|(dsimp only;exact Nat.ne_of_lt (Nat.lt_of_lt_of_le (by have:=World.block_lt_of_cell? _ _ hw207_0;first|rwa [add_block] at this|exact this) GW212.out))) _).trans (hHeld.1)))),((cell_far (p:=⟨gb212,_,none⟩) (by first|exact Nat.ne_of_lt (Nat.lt_of_lt_of_le (by have:=World.block_lt_of_cell? _ _ hw208_0;first|rwa [add_block] at this|exact this) GW212.out)|(rw [add_block];exact Nat.ne_of_lt (Nat.lt_of_lt_of_le (by have:=World.block_lt_of_cell? _ _ hw208_0;first|rwa [add_block] at this|exact this) GW212.out))|(show (Addr.add _ _).block≠_;rw [add_block];exact Nat.ne_of_lt (Nat.lt_of_lt_of_le (by have:=World.block_lt_of_cell? _ _ hw208_0;first|rwa [add_block] at this|exact this) GW212.out))|(dsimp only;exact Nat.ne_of_lt (Nat.lt_of_lt_of_le (by have:=World.block_lt_of_cell? _ _ hw208_0;first|rwa [add_block] at this|exact this) GW212.out))) _).trans (((cell_far (p:=⟨gb212,_,none⟩) (by first|exact Nat.ne_of_lt (Nat.lt_of_lt_of_le (by have:=World.block_lt_of_cell? _ _ hw208_0;first|rwa [add_block] at this|exact this) GW212.out)|(rw [add_block];exact Nat.ne_of_lt (Nat.lt_of_lt_of_le (by have:=World.block_lt_of_cell? _ _ hw208_0;first|rwa [add_block] at this|exact this) GW212.out))|(show (Addr.add _ _).block≠_;rw [add_block];exact Nat.ne_of_lt (Nat.lt_of_lt_of_le (by have:=World.block_lt_of_cell? _ _ hw208_0;first|rwa [add_block] at this|exact this) GW212.out))|(dsimp only;exact Nat.ne_of_lt (Nat.lt_of_lt_of_le (by have:=World.block_lt_of_cell? _ _ hw208_0;first|rwa [add_block] at this|exact this) GW212.out))) _).trans (hHeld.2.1)))),((cell_far (p:=⟨gb212,_,none⟩) (by first|exact Nat.ne_of_lt (Nat.lt_of_lt_of_le (by have:=World.block_lt_of_cell? _ _ hw208_1;first|rwa [add_block] at this|exact this) GW212.out)|(rw [add_block];exact Nat.ne_of_lt (Nat.lt_of_lt_of_le (by have:=World.block_lt_of_cell? _ _ hw208_1;first|rwa [add_block] at this|exact this) GW212.out))|(show (Addr.add _ _).block≠_;rw [add_block];exact Nat.ne_of_lt (Nat.lt_of_lt_of_le (by have:=World.block_lt_of_cell? _ _ hw208_1;first|rwa [add_block] at this|exact this) GW212.out))|(dsimp only;exact Nat.ne_of_lt (Nat.lt_of_lt_of_le (by have:=World.block_lt_of_cell? _ _ hw208_1;first|rwa [add_block] at this|exact this) GW212.out))) _).trans (((cell_far (p:=⟨gb212,_,none⟩) (by first|exact Nat.ne_of_lt (Nat.lt_of_lt_of_le (by have:=World.block_lt_of_cell? _ _ hw208_1;first|rwa [add_block] at this|exact this) GW212.out)|(rw [add_block];exact Nat.ne_of_lt (Nat.lt_of_lt_of_le (by have:=World.block_lt_of_cell? _ _ hw208_1;first|rwa [add_block] at this|exact this) GW212.out))|(show (Addr.add _ _).block≠_;rw [add_block];exact Nat.ne_of_lt (Nat.lt_of_lt_of_le (by have:=World.block_lt_of_cell? _ _ hw208_1;first|rwa [add_block] at this|exact this) GW212.out))|(dsimp only;exact Nat.ne_of_lt (Nat.lt_of_lt_of_le (by have:=World.block_lt_of_cell? _ _ hw208_1;first|rwa [add_block] at this|exact this) GW212.out))) _).trans (hHeld.2.2))))⟩ (fun hHeld=>?_);clear hK K;refine pu 15 (some 9) #[tt,tt,tt,tt,tt,tt,tt,tt,tt,tt,tt,tt,tt,tt,tt,tt] rfl rfl HT_ ?_;refine done_ (done_of HT_.out (by kernel_rfl)) ?_;have hnb36:=NB206_205.out;have hnc36:=NB205_206.out;have hnb37:=NB206_212.out;have hnc37:=NB212_206.out;have hcz38_0:w33.cell? ⟨gb206,0,none⟩=some (.int .i64 x207000_1):=(blk_cell BK206.out 0).trans rfl;have hcz38_1:w33.cell? ⟨gb206,1,none⟩=some (.int .i64 x207001_1):=(blk_cell BK206.out 1).trans rfl;have hfz38_0:=blk_frozen BK206.out 0;have hfz38_1:=blk_frozen BK206.out 1;have hnb39:=NB212_205.out;have hnc39:=NB205_212.out;have hcz40_0:w33.cell? ⟨gb212,0,none⟩=some (.int .i64 0):=(blk_cell BK212.out 0).trans rfl;have hcz40_1:w33.cell? ⟨gb212,1,none⟩=some (.int .i64 0):=(blk_cell BK212.out 1).trans rfl;have hfz40_0:=blk_frozen BK212.out 0;have hfz40_1:=blk_frozen BK212.out 1;(try go_wp2_with (first|((with_reducible refine gate_callee (f:=79) rfl ?_);refine gm (some 42) Try.func79 #[.agg #[.int .i64 x207000_1,.int .i64 x207001_1],.agg #[.int .i64 t209,.int .i64 t210]] ?_;(with_reducible refine (spec_AddRatios.calls kj6 x207000_1 x207001_1 t209 t210 t213 t214 false _ A15.out).mono ?_);rintro e w41 ⟨rfl,hb⟩;refine ⟨_,rfl,?_⟩;replace BK205:=aM (blk_below (g:=gb205) (o:=.cells #[.int .i64 x206000_1,.int .i64 x206001_1] 26 (0,0)) (by (with_reducible repeat (first|refine blk_drewN ?_ _|refine blk_drew ?_|refine blk_alloc ?_ _));refine blk_far ?_ NB205_212.out _;(with_reducible repeat (first|refine blk_drewN ?_ _|refine blk_drew ?_|refine blk_alloc ?_ _));refine blk_far ?_ NB205_212.out _;(with_reducible repeat (first|refine blk_drewN ?_ _|refine blk_drew ?_|refine blk_alloc ?_ _));exact BK205.out) hb);replace BK206:=aM (blk_below (g:=gb206) (o:=.cells #[.int .i64 x207000_1,.int .i64 x207001_1] 26 (0,0)) (by (with_reducible repeat (first|refine blk_drewN ?_ _|refine blk_drew ?_|refine blk_alloc ?_ _));refine blk_far ?_ NB206_212.out _;(with_reducible repeat (first|refine blk_drewN ?_ _|refine blk_drew ?_|refine blk_alloc ?_ _));refine blk_far ?_ NB206_212.out _;(with_reducible repeat (first|refine blk_drewN ?_ _|refine blk_drew ?_|refine blk_alloc ?_ _));exact BK206.out) hb);replace BK212:=aM (blk_below (g:=gb212) (o:=.cells #[.int .i64 t209,.int .i64 t210] 26 (0,0)) (by (with_reducible repeat (first|refine blk_drewN ?_ _|refine blk_drew ?_|refine blk_alloc ?_ _));refine blk_put (cs:=#[.int .i64 t209,.int .i64 0]) ?_ 1 _ rfl;(with_reducible repeat (first|refine blk_drewN ?_ _|refine blk_drew ?_|refine blk_alloc ?_ _));refine blk_put (cs:=#[.int .i64 0,.int .i64 0]) ?_ 0 _ rfl;(with_reducible repeat (first|refine blk_drewN ?_ _|refine blk_drew ?_|refine blk_alloc ?_ _));exact BK212.out) hb);replace HB:=aM (below_step (zs HB.out) hb);(try clear hb);(try clear hb2);(try clear hk);(try clear hi);have hcz42_0:w41.cell? ⟨gb206,0,none⟩=some (.int .i64 x207000_1):=(blk_cell BK206.out 0).trans rfl;have hcz42_1:w41.cell? ⟨gb206,1,none⟩=some (.int .i64 x207001_1):=(blk_cell BK206.out 1).trans rfl;have hfz42_0:=blk_frozen BK206.out 0;have hfz42_1:=blk_frozen BK206.out 1;have hcz43_0:w41.cell? ⟨gb205,0,none⟩=some (.int .i64 x206000_1):=(blk_cell BK205.out 0).trans rfl;have hcz43_1:w41.cell? ⟨gb205,1,none⟩=some (.int .i64 x206001_1):=(blk_cell BK205.out 1).trans rfl;have hfz43_0:=blk_frozen BK205.out 0;have hfz43_1:=blk_frozen BK205.out 1)));refine bodyPost_ret (results_ct rfl _ _ gb205 26 #[.int .i64 0,.int .i64 0] (0,0) _ rfl (by (with_reducible repeat (first|refine blk_drewN ?_ _|refine blk_drew ?_|refine blk_alloc ?_ _));refine blk_put (cs:=#[.int .i64 0,.int .i64 x206001_1]) ?_ 1 _ rfl;(with_reducible repeat (first|refine blk_drewN ?_ _|refine blk_drew ?_|refine blk_alloc ?_ _));refine blk_put (cs:=#[.int .i64 x206000_1,.int .i64 x206001_1]) ?_ 0 _ rfl;(with_reducible repeat (first|refine blk_drewN ?_ _|refine blk_drew ?_|refine blk_alloc ?_ _));refine blk_far ?_ NB205_206.out _;(with_reducible repeat (first|refine blk_drewN ?_ _|refine blk_drew ?_|refine blk_alloc ?_ _));refine blk_far ?_ NB205_206.out _;(with_reducible repeat (first|refine blk_drewN ?_ _|refine blk_drew ?_|refine blk_alloc ?_ _));exact BK205.out) Try.underlying26 rfl (by kernel_rfl)) rfl ?_;exact ⟨by first|rfl|(simp [errW_none,errW_some]<;>rfl)|(simp [*,errW_none,errW_some]<;>rfl),zs HB.out⟩
      ·replace c14:=Bool.eq_false_iff.mpr c14;subst c14;replace H:=ifF H;simp only [Option.some.injEq,Prod.mk.injEq] at H;obtain ⟨rfl,rfl,rfl⟩:=H;(try go_wp2);replace BK205:=aM (blk_drew BK205.out);replace BK206:=aM (blk_drew BK206.out);replace HB:=aM (below_drew1 HB.out);have p207:0≤(x7_1:Int):=zd;have q207:x7_1<(l0.length:Int):=zd;obtain ⟨ad207,e207,hx207_0⟩:=Kd.at_int HR0.out x7_1 p207 q207;have hw207_0:=hx207_0;cases e207;replace hx207_0:=(HB.out.cell (World.block_lt_of_cell? w _ hx207_0)).trans hx207_0;replace p207:=eq_true p207;replace q207:=eq_true q207;have p208:0≤(x7_1:Int):=zd;have q208:x7_1<(l1.length:Int):=zd;obtain ⟨ad208,e208,hx208_0,hx208_1⟩:=at_T26 HR1.out x7_1 p208 q208;have hw208_1:=hx208_1;have hw208_0:=hx208_0;cases e208;replace hx208_0:=(HB.out.cell (World.block_lt_of_cell? w _ hx208_0)).trans hx208_0;replace hx208_1:=(HB.out.cell (World.block_lt_of_cell? w _ hx208_1)).trans hx208_1;replace p208:=eq_true p208;replace q208:=eq_true q208;refine start_ (n:=16) (S:=fun w'=>w'.cell? (ad207.add (x7_1).toNat)=some (.int .i64 (rd l0 x7_1))∧w'.cell? (ad208.add ((x7_1).toNat*2))=some (.int .i64 ((rd_T26 l1 x7_1).f0))∧w'.cell? ⟨(ad208.add ((x7_1).toNat*2)).block,(ad208.add ((x7_1).toNat*2)).off+1,none⟩=some (.int .i64 ((rd_T26 l1 x7_1).f1))) (ds:=[]) #[ff,ff,ff,ff,ff,ff,ff,ff,ff,ff,ff,ff,ff,ff,ff,ff] (by kernel_rfl) rfl rfl ⟨((HB.out.cell (World.block_lt_of_cell? w _ hw207_0)).trans hw207_0),((HB.out.cell (World.block_lt_of_cell? w _ hw208_0)).trans hw208_0),((HB.out.cell (World.block_lt_of_cell? w _ hw208_1)).trans hw208_1)⟩ (fun hHeld=>?_);refine with_tabW spec_l6Dot.tab5 spec_l6Dot.bits5 (fun HT_ HW_=>?_);generalize wc.drew=w44 at BK205 BK206 HB hx207_0 hx208_0 hx208_1 hHeld ⊢;refine pu 0 (some 24) #[tt,ff,ff,ff,ff,ff,ff,ff,ff,ff,ff,ff,ff,ff,ff,ff] rfl rfl HT_ ?_;refine pu 1 (some 25) #[tt,tt,ff,ff,ff,ff,ff,ff,ff,ff,ff,ff,ff,ff,ff,ff] rfl rfl HT_ ?_;refine pu 2 (some 26) #[tt,tt,tt,ff,ff,ff,ff,ff,ff,ff,ff,ff,ff,ff,ff,ff] rfl rfl HT_ ?_;refine pu 5 (some 29) #[tt,tt,tt,ff,ff,tt,ff,ff,ff,ff,ff,ff,ff,ff,ff,ff] rfl rfl HT_ ?_;refine pu 6 (some 30) #[tt,tt,tt,ff,ff,tt,tt,ff,ff,ff,ff,ff,ff,ff,ff,ff] rfl rfl HT_ ?_;refine pu 7 (some 31) #[tt,tt,tt,ff,ff,tt,tt,tt,ff,ff,ff,ff,ff,ff,ff,ff] rfl rfl HT_ ?_;refine take_ (i:=3) (N:=some 27) (v:=?_) (a':=?_) #[tt,tt,tt,tt,ff,tt,tt,tt,ff,ff,ff,ff,ff,ff,ff,ff] rfl rfl (take_ofW HT_.out HW_.out (by kernel_rfl)) (fun _ _ _ h=>h) (Or.inl ⟨by rfl,?_⟩) hHeld ?_ ?_;rotate_left
       ·rintro w' ⟨s0,s1,s2⟩;go_simp;(with_reducible rfl)
       rotate_left
       ·simp only [Act.put,qa,qz,qs,i64_w,i32_w];rfl
       refine pu 4 (some 28) #[tt,tt,tt,tt,tt,tt,tt,tt,ff,ff,ff,ff,ff,ff,ff,ff] rfl rfl HT_ ?_;refine take_ (i:=8) (N:=some 32) (v:=?_) (a':=?_) #[tt,tt,tt,tt,tt,tt,tt,tt,tt,ff,ff,ff,ff,ff,ff,ff] rfl rfl (take_ofW HT_.out HW_.out (by kernel_rfl)) (fun _ _ _ h=>h) (Or.inl ⟨by rfl,?_⟩) hHeld ?_ ?_;rotate_left
       ·rintro w' ⟨s0,s1,s2⟩;go_simp;(with_reducible rfl)
       rotate_left
       ·simp only [Act.put,qa,qz,qs,i64_w,i32_w];rfl
       refine join_ (σ:=Nat) 2 #[tt,tt,tt,tt,tt,tt,tt,tt,tt,tt,tt,tt,tt,tt,ff,ff] (fun s_=>[(33,.tuple #[.agg #[.int .i64 t209,.int .i64 t210],.bool false]),(8,.pointer (some ⟨s_,0,none⟩)),(23,.tuple #[.agg #[.int .i64 t209,.int .i64 t210],.bool false]),(34,.agg #[.int .i64 t209,.int .i64 t210]),(35,.bool false)]) (fun s_ w'=>(w'.cell? (ad207.add (x7_1).toNat)=some (.int .i64 (rd l0 x7_1))∧w'.cell? (ad208.add ((x7_1).toNat*2))=some (.int .i64 ((rd_T26 l1 x7_1).f0))∧w'.cell? ⟨(ad208.add ((x7_1).toNat*2)).block,(ad208.add ((x7_1).toNat*2)).off+1,none⟩=some (.int .i64 ((rd_T26 l1 x7_1).f1)))∧(w'.heap[gb205]?=some (.cells #[.int .i64 x206000_1,.int .i64 x206001_1] 26 (0,0)))∧(w'.heap[gb206]?=some (.cells #[.int .i64 x207000_1,.int .i64 x207001_1] 26 (0,0)))∧(w'.heap[s_]?=some (.cells #[.int .i64 0,.int .i64 0] 26 (0,0)))∧(w.heap.size≤s_)∧(w.heap.size≤s_)∧(gb205≠s_)∧(s_≠gb205)∧(gb206≠s_)∧(s_≠gb206)∧(Below w.heap.size w w')) ?_ ?_;rotate_left
       ·intro hCont;refine two_ (i:=9) (j:=13) (Ni:=some 33) (Nj:=some 8) #[tt,tt,tt,tt,tt,tt,tt,tt,tt,tt,ff,ff,ff,ff,ff,ff] #[tt,tt,tt,tt,tt,tt,tt,tt,tt,ff,ff,ff,ff,tt,ff,ff] rfl rfl rfl rfl (two_of HT_.out (by kernel_rfl)) (by decide) (by decide) (fun K hK=>?_) (fun K hK=>?_)
        ·skip
         refine gs Try.func94 #[.agg #[.int .i64 (rd l0 x7_1),.int .i64 1],.agg #[.int .i64 ((rd_T26 l1 x7_1).f0),.int .i64 ((rd_T26 l1 x7_1).f1)]] ?_;(with_reducible refine (spec_TimesRatios.calls kj6 (rd l0 x7_1) 1 ((rd_T26 l1 x7_1).f0) ((rd_T26 l1 x7_1).f1) t209 t210 false _ A13.out).mono ?_);rintro e w45 ⟨rfl,hb⟩;refine ⟨_,rfl,?_⟩;replace BK205:=aM (blk_below (g:=gb205) (o:=.cells #[.int .i64 x206000_1,.int .i64 x206001_1] 26 (0,0)) (zk BK205.out) hb);replace BK206:=aM (blk_below (g:=gb206) (o:=.cells #[.int .i64 x207000_1,.int .i64 x207001_1] 26 (0,0)) (zk BK206.out) hb);replace HB:=aM (below_step (zs HB.out) hb);(try clear hb);(try clear hb2);(try clear hk);(try clear hi);refine hK.out _ _ ⟨((HB.out.cell (World.block_lt_of_cell? w _ hw207_0)).trans hw207_0),((HB.out.cell (World.block_lt_of_cell? w _ hw208_0)).trans hw208_0),((HB.out.cell (World.block_lt_of_cell? w _ hw208_1)).trans hw208_1)⟩ (fun hHeld=>?_);clear hK K;refine norm_ (a':=?_) ?_ ?_;rotate_left
         ·show Act.put _ (some 33) _=_;simp only [Act.put,qa,qz,qs,i64_w,i32_w];rfl
         refine pu 10 (some 23) #[tt,tt,tt,tt,tt,tt,tt,tt,tt,tt,tt,ff,ff,ff,ff,ff] rfl rfl HT_ ?_;refine pu 11 (some 34) #[tt,tt,tt,tt,tt,tt,tt,tt,tt,tt,tt,tt,ff,ff,ff,ff] rfl rfl HT_ ?_;refine pu 12 (some 35) #[tt,tt,tt,tt,tt,tt,tt,tt,tt,tt,tt,tt,tt,ff,ff,ff] rfl rfl HT_ ?_;refine one_ (i:=13) (N:=some 8) #[tt,tt,tt,tt,tt,tt,tt,tt,tt,tt,tt,tt,tt,tt,ff,ff] rfl rfl (one_of HT_.out (by kernel_rfl)) (by decide) (fun K hK=>?_);refine box_step ?hg (N:=8) ?hd (cs:=#[.int .i64 0,.int .i64 0]) (t:=26) ?hr ?_;(case hd=>rfl);(case hg=>rfl);(case hr=>first|(go_simp;done)|(go_simp;rfl));intro gb212 hg w46 hbox hb;have BK212:=aM (hbox);have GW212:=aM (zg hg (zs HB.out));have GE212:=aM (zg hg (zs HB.out));replace HB:=aM (below_step (zs HB.out) hb);have NB205_212:=aM (zl hg (zk BK205.out));have NB212_205:=aM (zm hg (zk BK205.out));replace BK205:=aM (blk_below (g:=gb205) (o:=.cells #[.int .i64 x206000_1,.int .i64 x206001_1] 26 (0,0)) (zk BK205.out) hb);have NB206_212:=aM (zl hg (zk BK206.out));have NB212_206:=aM (zm hg (zk BK206.out));replace BK206:=aM (blk_below (g:=gb206) (o:=.cells #[.int .i64 x207000_1,.int .i64 x207001_1] 26 (0,0)) (zk BK206.out) hb);clear hb hbox hg;refine hK.out _ _ ⟨((HB.out.cell (World.block_lt_of_cell? w _ hw207_0)).trans hw207_0),((HB.out.cell (World.block_lt_of_cell? w _ hw208_0)).trans hw208_0),((HB.out.cell (World.block_lt_of_cell? w _ hw208_1)).trans hw208_1)⟩ (fun hHeld=>?_);clear hK K;refine norm_ (a':=?_) ?_ ?_;rotate_left
         ·show Act.put _ (some 8) _=_;simp only [Act.put,qa,qz,qs,i64_w,i32_w];rfl
         exact norm_ (by simp only [putAll,Act.put,qa,qz,qs]) (hCont (gb212) _ ⟨hHeld,(zk BK205.out),(zk BK206.out),(zk BK212.out),GW212.out,GE212.out,NB205_212.out,NB212_205.out,NB206_212.out,NB212_206.out,(zs HB.out)⟩)
        ·skip
         refine box_step ?hg (N:=8) ?hd (cs:=#[.int .i64 0,.int .i64 0]) (t:=26) ?hr ?_;(case hd=>rfl);(case hg=>rfl);(case hr=>first|(go_simp;done)|(go_simp;rfl));intro gb212 hg w45 hbox hb;have BK212:=aM (hbox);have GW212:=aM (zg hg (zs HB.out));have GE212:=aM (zg hg (zs HB.out));replace HB:=aM (below_step (zs HB.out) hb);have NB205_212:=aM (zl hg (zk BK205.out));have NB212_205:=aM (zm hg (zk BK205.out));replace BK205:=aM (blk_below (g:=gb205) (o:=.cells #[.int .i64 x206000_1,.int .i64 x206001_1] 26 (0,0)) (zk BK205.out) hb);have NB206_212:=aM (zl hg (zk BK206.out));have NB212_206:=aM (zm hg (zk BK206.out));replace BK206:=aM (blk_below (g:=gb206) (o:=.cells #[.int .i64 x207000_1,.int .i64 x207001_1] 26 (0,0)) (zk BK206.out) hb);clear hb hbox hg;refine hK.out _ _ ⟨((HB.out.cell (World.block_lt_of_cell? w _ hw207_0)).trans hw207_0),((HB.out.cell (World.block_lt_of_cell? w _ hw208_0)).trans hw208_0),((HB.out.cell (World.block_lt_of_cell? w _ hw208_1)).trans hw208_1)⟩ (fun hHeld=>?_);clear hK K;refine norm_ (a':=?_) ?_ ?_;rotate_left
         ·show Act.put _ (some 8) _=_;simp only [Act.put,qa,qz,qs,i64_w,i32_w];rfl
         refine one_ (i:=9) (N:=some 33) #[tt,tt,tt,tt,tt,tt,tt,tt,tt,tt,ff,ff,ff,tt,ff,ff] rfl rfl (one_of HT_.out (by kernel_rfl)) (by decide) (fun K hK=>?_);refine gs Try.func94 #[.agg #[.int .i64 (rd l0 x7_1),.int .i64 1],.agg #[.int .i64 ((rd_T26 l1 x7_1).f0),.int .i64 ((rd_T26 l1 x7_1).f1)]] ?_;(with_reducible refine (spec_TimesRatios.calls kj6 (rd l0 x7_1) 1 ((rd_T26 l1 x7_1).f0) ((rd_T26 l1 x7_1).f1) t209 t210 false _ A13.out).mono ?_);rintro e w46 ⟨rfl,hb⟩;refine ⟨_,rfl,?_⟩;replace BK205:=aM (blk_below (g:=gb205) (o:=.cells #[.int .i64 x206000_1,.int .i64 x206001_1] 26 (0,0)) (zk BK205.out) hb);replace BK206:=aM (blk_below (g:=gb206) (o:=.cells #[.int .i64 x207000_1,.int .i64 x207001_1] 26 (0,0)) (zk BK206.out) hb);replace BK212:=aM (blk_below (g:=gb212) (o:=.cells #[.int .i64 0,.int .i64 0] 26 (0,0)) (zk BK212.out) hb);replace HB:=aM (below_step (zs HB.out) hb);(try clear hb);(try clear hb2);(try clear hk);(try clear hi);refine hK.out _ _ ⟨((HB.out.cell (World.block_lt_of_cell? w _ hw207_0)).trans hw207_0),((HB.out.cell (World.block_lt_of_cell? w _ hw208_0)).trans hw208_0),((HB.out.cell (World.block_lt_of_cell? w _ hw208_1)).trans hw208_1)⟩ (fun hHeld=>?_);clear hK K;refine norm_ (a':=?_) ?_ ?_;rotate_left
         ·show Act.put _ (some 33) _=_;simp only [Act.put,qa,qz,qs,i64_w,i32_w];rfl
         refine pu 10 (some 23) #[tt,tt,tt,tt,tt,tt,tt,tt,tt,tt,tt,ff,ff,tt,ff,ff] rfl rfl HT_ ?_;refine pu 11 (some 34) #[tt,tt,tt,tt,tt,tt,tt,tt,tt,tt,tt,tt,ff,tt,ff,ff] rfl rfl HT_ ?_;refine pu 12 (some 35) #[tt,tt,tt,tt,tt,tt,tt,tt,tt,tt,tt,tt,tt,tt,ff,ff] rfl rfl HT_ ?_;exact norm_ (by simp only [putAll,Act.put,qa,qz,qs]) (hCont (gb212) _ ⟨hHeld,(zk BK205.out),(zk BK206.out),(zk BK212.out),GW212.out,GE212.out,NB205_212.out,NB212_205.out,NB206_212.out,NB212_206.out,(zs HB.out)⟩)
       rintro gb212 w47 ⟨hS_,h0_,h1_,h2_,h3_,h4_,h5_,h6_,h7_,h8_,h9_⟩;replace BK205:Aside0 (w47.heap[gb205]?=some (.cells #[.int .i64 x206000_1,.int .i64 x206001_1] 26 (0,0))):=⟨h0_⟩;replace BK206:Aside0 (w47.heap[gb206]?=some (.cells #[.int .i64 x207000_1,.int .i64 x207001_1] 26 (0,0))):=⟨h1_⟩;have BK212:Aside0 (w47.heap[gb212]?=some (.cells #[.int .i64 0,.int .i64 0] 26 (0,0))):=⟨h2_⟩;have GW212:Aside0 (w.heap.size≤gb212):=⟨h3_⟩;have GE212:Aside0 (w.heap.size≤gb212):=⟨h4_⟩;have NB205_212:Aside0 (gb205≠gb212):=⟨h5_⟩;have NB212_205:Aside0 (gb212≠gb205):=⟨h6_⟩;have NB206_212:Aside0 (gb206≠gb212):=⟨h7_⟩;have NB212_206:Aside0 (gb212≠gb206):=⟨h8_⟩;replace HB:Aside0 (Below w.heap.size w w47):=⟨h9_⟩;clear h0_ h1_ h2_ h3_ h4_ h5_ h6_ h7_ h8_ h9_;have hHeld:w47.cell? (ad207.add (x7_1).toNat)=some (.int .i64 (rd l0 x7_1))∧w47.cell? (ad208.add ((x7_1).toNat*2))=some (.int .i64 ((rd_T26 l1 x7_1).f0))∧w47.cell? ⟨(ad208.add ((x7_1).toNat*2)).block,(ad208.add ((x7_1).toNat*2)).off+1,none⟩=some (.int .i64 ((rd_T26 l1 x7_1).f1)):=hS_;refine norm_ (a':=?_) ?_ ?_;rotate_left
       ·simp only [putAll,Act.put,qa,qz,qs];rfl
       refine one_ (i:=14) (N:=none) #[tt,tt,tt,tt,tt,tt,tt,tt,tt,tt,tt,tt,tt,tt,tt,ff] rfl rfl (one_of HT_.out (by kernel_rfl)) (by decide) (fun K hK=>?_);have hs48:w47.cell? ⟨gb212,0,none⟩=some (.int .i64 0):=(blk_cell BK212.out 0).trans rfl;have hfs48:=blk_frozen BK212.out 0;have hns48_0:=NB205_212.out;have hns48_1:=NB206_212.out;have hms48_0:=NB212_205.out;have hms48_1:=NB212_206.out;have hs49:w47.cell? ⟨gb212,1,none⟩=some (.int .i64 0):=(blk_cell BK212.out 1).trans rfl;have hfs49:=blk_frozen BK212.out 1;have hns49_0:=NB205_212.out;have hns49_1:=NB206_212.out;have hms49_0:=NB212_205.out;have hms49_1:=NB212_206.out;refine skip_ (w1:=?_) (by rfl) rfl ?_ ?_;rotate_left
       ·go_simp;rfl
       refine hK.out _ _ ⟨((cell_far (p:=⟨gb212,_,none⟩) (by first|exact Nat.ne_of_lt (Nat.lt_of_lt_of_le (by have:=World.block_lt_of_cell? _ _ hw207_0;first|rwa [add_block] at this|exact this) GW212.out)|(rw [add_block];exact Nat.ne_of_lt (Nat.lt_of_lt_of_le (by have:=World.block_lt_of_cell? _ _ hw207_0;first|rwa [add_block] at this|exact this) GW212.out))|(show (Addr.add _ _).block≠_;rw [add_block];exact Nat.ne_of_lt (Nat.lt_of_lt_of_le (by have:=World.block_lt_of_cell? _ _ hw207_0;first|rwa [add_block] at this|exact this) GW212.out))|(dsimp only;exact Nat.ne_of_lt (Nat.lt_of_lt_of_le (by have:=World.block_lt_of_cell? _ _ hw207_0;first|rwa [add_block] at this|exact this) GW212.out))) _).trans (((cell_far (p:=⟨gb212,_,none⟩) (by first|exact Nat.ne_of_lt (Nat.lt_of_lt_of_le (by have:=World.block_lt_of_cell? _ _ hw207_0;first|rwa [add_block] at this|exact this) GW212.out)|(rw [add_block];exact Nat.ne_of_lt (Nat.lt_of_lt_of_le (by have:=World.block_lt_of_cell? _ _ hw207_0;first|rwa [add_block] at this|exact this) GW212.out))|(show (Addr.add _ _).block≠_;rw [add_block];exact Nat.ne_of_lt (Nat.lt_of_lt_of_le (by have:=World.block_lt_of_cell? _ _ hw207_0;first|rwa [add_block] at this|exact this) GW212.out))|(dsimp only;exact Nat.ne_of_lt (Nat.lt_of_lt_of_le (by have:=World.block_lt_of_cell? _ _ hw207_0;first|rwa [add_block] at this|exact this) GW212.out))) _).trans (hHeld.1)))),((cell_far (p:=⟨gb212,_,none⟩) (by first|exact Nat.ne_of_lt (Nat.lt_of_lt_of_le (by have:=World.block_lt_of_cell? _ _ hw208_0;first|rwa [add_block] at this|exact this) GW212.out)|(rw [add_block];exact Nat.ne_of_lt (Nat.lt_of_lt_of_le (by have:=World.block_lt_of_cell? _ _ hw208_0;first|rwa [add_block] at this|exact this) GW212.out))|(show (Addr.add _ _).block≠_;rw [add_block];exact Nat.ne_of_lt (Nat.lt_of_lt_of_le (by have:=World.block_lt_of_cell? _ _ hw208_0;first|rwa [add_block] at this|exact this) GW212.out))|(dsimp only;exact Nat.ne_of_lt (Nat.lt_of_lt_of_le (by have:=World.block_lt_of_cell? _ _ hw208_0;first|rwa [add_block] at this|exact this) GW212.out))) _).trans (((cell_far (p:=⟨gb212,_,none⟩) (by first|exact Nat.ne_of_lt (Nat.lt_of_lt_of_le (by have:=World.block_lt_of_cell? _ _ hw208_0;first|rwa [add_block] at this|exact this) GW212.out)|(rw [add_block];exact Nat.ne_of_lt (Nat.lt_of_lt_of_le (by have:=World.block_lt_of_cell? _ _ hw208_0;first|rwa [add_block] at this|exact this) GW212.out))|(show (Addr.add _ _).block≠_;rw [add_block];exact Nat.ne_of_lt (Nat.lt_of_lt_of_le (by have:=World.block_lt_of_cell? _ _ hw208_0;first|rwa [add_block] at this|exact this) GW212.out))|(dsimp only;exact Nat.ne_of_lt (Nat.lt_of_lt_of_le (by have:=World.block_lt_of_cell? _ _ hw208_0;first|rwa [add_block] at this|exact this) GW212.out))) _).trans (hHeld.2.1)))),((cell_far (p:=⟨gb212,_,none⟩) (by first|exact Nat.ne_of_lt (Nat.lt_of_lt_of_le (by have:=World.block_lt_of_cell? _ _ hw208_1;first|rwa [add_block] at this|exact this) GW212.out)|(rw [add_block];exact Nat.ne_of_lt (Nat.lt_of_lt_of_le (by have:=World.block_lt_of_cell? _ _ hw208_1;first|rwa [add_block] at this|exact this) GW212.out))|(show (Addr.add _ _).block≠_;rw [add_block];exact Nat.ne_of_lt (Nat.lt_of_lt_of_le (by have:=World.block_lt_of_cell? _ _ hw208_1;first|rwa [add_block] at this|exact this) GW212.out))|(dsimp only;exact Nat.ne_of_lt (Nat.lt_of_lt_of_le (by have:=World.block_lt_of_cell? _ _ hw208_1;first|rwa [add_block] at this|exact this) GW212.out))) _).trans (((cell_far (p:=⟨gb212,_,none⟩) (by first|exact Nat.ne_of_lt (Nat.lt_of_lt_of_le (by have:=World.block_lt_of_cell? _ _ hw208_1;first|rwa [add_block] at this|exact this) GW212.out)|(rw [add_block];exact Nat.ne_of_lt (Nat.lt_of_lt_of_le (by have:=World.block_lt_of_cell? _ _ hw208_1;first|rwa [add_block] at this|exact this) GW212.out))|(show (Addr.add _ _).block≠_;rw [add_block];exact Nat.ne_of_lt (Nat.lt_of_lt_of_le (by have:=World.block_lt_of_cell? _ _ hw208_1;first|rwa [add_block] at this|exact this) GW212.out))|(dsimp only;exact Nat.ne_of_lt (Nat.lt_of_lt_of_le (by have:=World.block_lt_of_cell? _ _ hw208_1;first|rwa [add_block] at this|exact this) GW212.out))) _).trans (hHeld.2.2))))⟩ (fun hHeld=>?_);clear hK K;refine pu 15 (some 9) #[tt,tt,tt,tt,tt,tt,tt,tt,tt,tt,tt,tt,tt,tt,tt,tt] rfl rfl HT_ ?_;refine done_ (done_of HT_.out (by kernel_rfl)) ?_;have hnb50:=NB205_206.out;have hnc50:=NB206_205.out;have hnb51:=NB205_212.out;have hnc51:=NB212_205.out;have hcz52_0:w47.cell? ⟨gb205,0,none⟩=some (.int .i64 x206000_1):=(blk_cell BK205.out 0).trans rfl;have hcz52_1:w47.cell? ⟨gb205,1,none⟩=some (.int .i64 x206001_1):=(blk_cell BK205.out 1).trans rfl;have hfz52_0:=blk_frozen BK205.out 0;have hfz52_1:=blk_frozen BK205.out 1;(try go_wp2);refine bodyPost_ret (results_ct rfl _ _ gb205 26 #[.int .i64 0,.int .i64 0] (0,0) _ rfl (by (with_reducible repeat (first|refine blk_drewN ?_ _|refine blk_drew ?_|refine blk_alloc ?_ _));refine blk_put (cs:=#[.int .i64 0,.int .i64 x206001_1]) ?_ 1 _ rfl;(with_reducible repeat (first|refine blk_drewN ?_ _|refine blk_drew ?_|refine blk_alloc ?_ _));refine blk_put (cs:=#[.int .i64 x206000_1,.int .i64 x206001_1]) ?_ 0 _ rfl;(with_reducible repeat (first|refine blk_drewN ?_ _|refine blk_drew ?_|refine blk_alloc ?_ _));refine blk_far ?_ NB205_212.out _;(with_reducible repeat (first|refine blk_drewN ?_ _|refine blk_drew ?_|refine blk_alloc ?_ _));refine blk_far ?_ NB205_212.out _;(with_reducible repeat (first|refine blk_drewN ?_ _|refine blk_drew ?_|refine blk_alloc ?_ _));exact BK205.out) Try.underlying26 rfl (by kernel_rfl)) rfl ?_;exact ⟨by first|rfl|(simp [errW_none,errW_some]<;>rfl)|(simp [*,errW_none,errW_some]<;>rfl),zs HB.out⟩
     ·replace c9:=Bool.eq_false_iff.mpr c9;subst c9;replace H:=ifF H;simp only [Option.some.injEq,Prod.mk.injEq] at H;obtain ⟨rfl,rfl,rfl⟩:=H;have hnb53:=NB206_205.out;have hnc53:=NB205_206.out;have hcz54_0:wc.cell? ⟨gb206,0,none⟩=some (.int .i64 x207000_1):=(blk_cell BK206.out 0).trans rfl;have hcz54_1:wc.cell? ⟨gb206,1,none⟩=some (.int .i64 x207001_1):=(blk_cell BK206.out 1).trans rfl;have hfz54_0:=blk_frozen BK206.out 0;have hfz54_1:=blk_frozen BK206.out 1;have hcz55_0:wc.cell? ⟨gb205,0,none⟩=some (.int .i64 x206000_1):=(blk_cell BK205.out 0).trans rfl;have hcz55_1:wc.cell? ⟨gb205,1,none⟩=some (.int .i64 x206001_1):=(blk_cell BK205.out 1).trans rfl;have hfz55_0:=blk_frozen BK205.out 0;have hfz55_1:=blk_frozen BK205.out 1;go_wp2;refine bodyPost_ret (results_ct rfl _ _ gb205 26 #[.int .i64 x207000_1,.int .i64 x207001_1] (0,0) _ rfl (by (with_reducible repeat (first|refine blk_drewN ?_ _|refine blk_drew ?_|refine blk_alloc ?_ _));refine blk_put (cs:=#[.int .i64 x207000_1,.int .i64 x206001_1]) ?_ 1 _ rfl;(with_reducible repeat (first|refine blk_drewN ?_ _|refine blk_drew ?_|refine blk_alloc ?_ _));refine blk_put (cs:=#[.int .i64 x206000_1,.int .i64 x206001_1]) ?_ 0 _ rfl;(with_reducible repeat (first|refine blk_drewN ?_ _|refine blk_drew ?_|refine blk_alloc ?_ _));exact BK205.out) Try.underlying26 rfl (by kernel_rfl)) rfl ?_;exact ⟨by first|rfl|(simp [errW_none,errW_some]<;>rfl)|(simp [*,errW_none,errW_some]<;>rfl),zs HB.out⟩
end Go.Proofs.Ytojkepidkmkmpaa.PFnExactFitsSystem
end
section
namespace Go.Proofs.Ytojkepidkmkmpaa.PFnExactFitsSystem
open Go.Proofs.YtojkepidkmkmpaaW.PrintWords.Aside0 renaming mk → aM
open List renaming setIfInBounds_toArray → qa, set_cons_zero → qz, set_cons_succ → qs
open Bool renaming true → tt, false → ff
open Option renaming bind_eq_some_iff → bE

open Go.RowKit Go.Proofs.YtojkepidkmkmpaaW.PrintWords Go.Proofs.YtojkepidkmkmpaaW.PrintLast Go.Proofs.YtojkepidkmkmpaaW.PrintMore
attribute [local go_sem] max2_int min2_int max_two min_two max_three min_three max_four min_four
set_option linter.unusedVariables false
set_option linter.unusedSimpArgs false
attribute [local go_sem high] eqA26
mutual
def spec_IsMatrix.j0 : Nat → List (List Int) → Int → Bool → Option (Bool)
 | 0, _, _, _ => none
 | k + 1, x0, x1, x14 => if x14 = true then (some false) else (spec_IsMatrix.l0 k x0 x1 0)
def spec_IsMatrix.l0 : Nat → List (List Int) → Int → Int → Option (Bool)
 | 0, _, _, _ => none
 | k + 1, x0, x1, x5 => if x5 < (x0.length : Int) then (if 0 ≤ x5 then (if ((rd_L1 x0 x5).length : Int) = x1 then (spec_IsMatrix.l1 k x0 x1 x5 0) else (some false)) else (none)) else (some true)
def spec_IsMatrix.l1 : Nat → List (List Int) → Int → Int → Int → Option (Bool)
 | 0, _, _, _, _ => none
 | k + 1, x0, x1, x5, x6 => if x6 < x1 then (if 0 ≤ x5 then (if x5 < (x0.length : Int) then (if 0 ≤ x6 then (if x6 < ((rd_L1 x0 x5).length : Int) then ((spec_l1In.f (rd (rd_L1 x0 x5) x6) (-2) 2).bind fun t220 => (if t220 = true then (spec_IsMatrix.l1 k x0 x1 x5 (wrap64 (x6 + 1))) else (some false))) else (none)) else (none)) else (none)) else (none)) else (spec_IsMatrix.l0 k x0 x1 (wrap64 (x5 + 1)))
end
def spec_IsMatrix.f (k : Nat) (l0 : List (List Int)) (a1 : Int) : Option (Bool) := (spec_l1In.f a1 1 6).bind fun t216 => (if t216 = true then (spec_IsMatrix.j0 k l0 a1 (decide ((l0.length : Int) > 12))) else (spec_IsMatrix.j0 k l0 a1 true))
set_option maxHeartbeats 8000000 in
set_option maxRecDepth 100000 in
theorem spec_IsMatrix.calls (k : Nat) (A0 : Option Addr) (c0 : Nat) (l0 : List (List Int)) (a1 : Int) (r : Bool) (w : World) (hr0 : Kd.C (Kd.slice 3 (Kd.int .i64)) w A0 l0.length l0) (hc0 : l0.length ≤ c0) (h : spec_IsMatrix.f k l0 a1 = some r) :
 Calls Try.prog 41 #[.slice A0 l0.length c0, .int .i64 a1] w fun e w' => e = .returned (.bool r) ∧ Drawn0 w w' := by
 have HR0:=aM hr0;have HC0:=aM hc0;clear hr0 hc0;have H:((spec_l1In.f a1 1 6).bind fun t216=>(if t216=true then (spec_IsMatrix.j0 k l0 a1 (decide ((l0.length:Int) > 12))) else (spec_IsMatrix.j0 k l0 a1 true)))=some r:=h;clear h;have HC3:=aM H;clear H;go_enter Try.func41,Try.ntmps41;go_upto_region 1 with (fail)
 go_cut [14] (fun v14 wc=>∃(kq:Nat) (x14_2:Bool),v14 = .bool x14_2∧Aside0 (spec_IsMatrix.j0 kq l0 a1 x14_2=some r)∧Aside0 (kq≤k)∧Drawn0 w wc)
 case first=>
  have H:=HC3.out;clear HC3;obtain ⟨t216,A4,H⟩:=bz H;by_cases c5:t216=true
  ·subst c5;replace H:=ifT H;have H':=aM H;clear H;go_wp2_with (first|((with_reducible refine gate_callee (f:=83) rfl ?_);refine gm (some 8) Try.func83 #[.int .i64 a1,.int .i64 1,.int .i64 6] ?_;(with_reducible refine (spec_l1In.calls a1 1 6 true _ A4.out).mono ?_);rintro e w' ⟨rfl,⟨nd,rfl⟩⟩;refine ⟨_,rfl,?_⟩));go_meet;(case rel=>exact ⟨_,(decide ((l0.length:Int) > 12)),zt,H',⟨by first|omega|exact Nat.le_refl _⟩,by repeat (first|exact Drawn0.refl _|apply Drawn0.step)⟩)
  ·replace c5:=Bool.eq_false_iff.mpr c5;subst c5;replace H:=ifF H;have H':=aM H;clear H;go_wp2_with (first|((with_reducible refine gate_callee (f:=83) rfl ?_);refine gm (some 8) Try.func83 #[.int .i64 a1,.int .i64 1,.int .i64 6] ?_;(with_reducible refine (spec_l1In.calls a1 1 6 false _ A4.out).mono ?_);rintro e w' ⟨rfl,⟨nd,rfl⟩⟩;refine ⟨_,rfl,?_⟩));go_meet;(case rel=>exact ⟨_,(true),zt,H',⟨by first|omega|exact Nat.le_refl _⟩,by repeat (first|exact Drawn0.refl _|apply Drawn0.step)⟩)
 case rest=>
  clear HC3;(try clear p2);(try clear c4);(try clear c5);obtain ⟨kq,x14_2,rfl,HA,HJ2,⟨mc2,rfl⟩⟩:=hcut;cases kq with
  | zero=>exact absurd HA.out (by simp [spec_IsMatrix.j0])
  | succ kj2=>
   have H:=HA.out;clear HA;simp only [spec_IsMatrix.j0] at H;by_cases c6:x14_2=true
   ·subst c6;replace H:=ifT H;obtain rfl:=Option.some.inj H;go_wp2;go_ret;exact ⟨zt,zz⟩
   ·replace c6:=Bool.eq_false_iff.mpr c6;subst c6;replace H:=ifF H;have H':=aM H;clear H;go_wp2;go_loopg [5] kj2 (fun kq v5 w'=>∃(x5_2:Int),v5 = .int .i64 x5_2∧Aside0 (spec_IsMatrix.l0 kq l0 a1 x5_2=some r)∧Aside0 (kq≤kj2)∧Drawn0 w w');(case atStart=>exact ⟨(0),zt,H',⟨Nat.le_refl _⟩,by repeat (first|exact Drawn0.refl _|apply Drawn0.step)⟩)
    case round=>
     clear H';(try clear c2);(try clear p2);(try clear c4);(try clear c5);(try clear c6);(try clear p2);obtain ⟨x5_2,rfl,HA,HK2,⟨m2,rfl⟩⟩:=hrel;cases gk with
     | zero=>exact absurd HA.out (by simp [spec_IsMatrix.l0])
     | succ k2=>
      have H:=HA.out;clear HA;simp only [spec_IsMatrix.l0] at H;by_cases c7:x5_2<(l0.length:Int)
      ·rw [if_pos c7] at H;have c7b0:decide (x5_2<(l0.length:Int))=true:=decide_eq_true c7;clear c7;obtain ⟨c8b0,H⟩:=iN H;by_cases c9:((rd_L1 l0 x5_2).length:Int)=a1
       ·rw [if_pos c9] at H;have c9b0:(((rd_L1 l0 x5_2).length:Int) == a1)=true:=beq_iff_eq.mpr c9;have c9b1:(((rd_L1 l0 x5_2).length:Int) != a1)=false:=bne_eq_false_iff_eq.mpr c9;clear c9;have H':=aM H;clear H;have p217:0≤(x5_2:Int):=zd;have q217:x5_2<(l0.length:Int):=zd;obtain ⟨ad217,A217_0,c217_0,e217,hx217_0,hl217_0,hi217_0⟩:=at_L1 HR0.out x5_2 p217 q217;cases e217;have HR217_0:=aM hi217_0;have HC217_0:=aM hl217_0;clear hi217_0 hl217_0;replace p217:=eq_true p217;replace q217:=eq_true q217;go_wp2;go_loopg [6] k2 (fun kq v6 w'=>∃(x6_3:Int),v6 = .int .i64 x6_3∧Aside0 (spec_IsMatrix.l1 kq l0 a1 x5_2 x6_3=some r)∧Aside0 (kq≤k2)∧Drawn0 w w');(case atStart=>exact ⟨(0),zt,H',⟨Nat.le_refl _⟩,by repeat (first|exact Drawn0.refl _|apply Drawn0.step)⟩)
        case round=>
         clear H';(try clear c2);(try clear p2);(try clear q2);(try clear hx2);(try clear c4);(try clear c5);(try clear c6);(try clear c7);(try clear c7b0);(try clear c8);(try clear c8b0);(try clear c9);(try clear c9b0);(try clear c9b1);(try clear hx217_0);(try clear p2);(try clear p217);(try clear q217);obtain ⟨x6_3,rfl,HA,HK3,⟨m3,rfl⟩⟩:=hrel;cases gk with
         | zero=>exact absurd HA.out (by simp [spec_IsMatrix.l1])
         | succ k3=>
          have H:=HA.out;clear HA;simp only [spec_IsMatrix.l1] at H;by_cases c10:x6_3<a1
          ·rw [if_pos c10] at H;have c10b0:decide (x6_3<a1)=true:=decide_eq_true c10;clear c10;obtain ⟨c11b0,H⟩:=iN H;obtain ⟨c12b0,H⟩:=iN H;obtain ⟨c13b0,H⟩:=iN H;obtain ⟨c14b0,H⟩:=iN H;obtain ⟨t220,A15,H⟩:=bz H;by_cases c16:t220=true
           ·subst c16;replace H:=ifT H;have H':=aM H;clear H;have p218:0≤(x5_2:Int):=zd;have q218:x5_2<(l0.length:Int):=zd;obtain ⟨ad218,A218_0,c218_0,e218,hx218_0,hl218_0,hi218_0⟩:=at_L1 HR0.out x5_2 p218 q218;obtain rfl:ad217=ad218:=(by injection e218);have HR218_0:=aM hi218_0;have HC218_0:=aM hl218_0;clear hi218_0 hl218_0;replace p218:=eq_true p218;replace q218:=eq_true q218;have p219:0≤(x6_3:Int):=zd;have q219:x6_3<((rd_L1 l0 x5_2).length:Int):=zd;obtain ⟨ad219,e219,hx219_0⟩:=Kd.at_int HR218_0.out x6_3 p219 q219;cases e219;replace p219:=eq_true p219;replace q219:=eq_true q219;go_wp2_with (first|((with_reducible refine gate_callee (f:=83) rfl ?_);refine gm (some 40) Try.func83 #[.int .i64 (rd (rd_L1 l0 x5_2) x6_3),.int .i64 (-2),.int .i64 2] ?_;(with_reducible refine (spec_l1In.calls (rd (rd_L1 l0 x5_2) x6_3) (-2) 2 true _ A15.out).mono ?_);rintro e w' ⟨rfl,⟨nd,rfl⟩⟩;refine ⟨_,rfl,?_⟩));go_roundg k3;(case measure=>have:=HJ2.out;have:=HK2.out;have:=HK3.out;omega);(case rel=>exact ⟨(wrap64 (x6_3+1)),zt,H',⟨by have:=HJ2.out;have:=HK2.out;have:=HK3.out;omega⟩,by repeat (first|exact Drawn0.refl _|apply Drawn0.step)⟩)
           ·replace c16:=Bool.eq_false_iff.mpr c16;subst c16;replace H:=ifF H;obtain rfl:=Option.some.inj H;have p218:0≤(x5_2:Int):=zd;have q218:x5_2<(l0.length:Int):=zd;obtain ⟨ad218,A218_0,c218_0,e218,hx218_0,hl218_0,hi218_0⟩:=at_L1 HR0.out x5_2 p218 q218;obtain rfl:ad217=ad218:=(by injection e218);have HR218_0:=aM hi218_0;have HC218_0:=aM hl218_0;clear hi218_0 hl218_0;replace p218:=eq_true p218;replace q218:=eq_true q218;have p219:0≤(x6_3:Int):=zd;have q219:x6_3<((rd_L1 l0 x5_2).length:Int):=zd;obtain ⟨ad219,e219,hx219_0⟩:=Kd.at_int HR218_0.out x6_3 p219 q219;cases e219;replace p219:=eq_true p219;replace q219:=eq_true q219;go_wp2_with (first|((with_reducible refine gate_callee (f:=83) rfl ?_);refine gm (some 40) Try.func83 #[.int .i64 (rd (rd_L1 l0 x5_2) x6_3),.int .i64 (-2),.int .i64 2] ?_;(with_reducible refine (spec_l1In.calls (rd (rd_L1 l0 x5_2) x6_3) (-2) 2 false _ A15.out).mono ?_);rintro e w' ⟨rfl,⟨nd,rfl⟩⟩;refine ⟨_,rfl,?_⟩));go_ret;exact ⟨zt,zz⟩
          ·rw [if_neg c10] at H;have c10b0:decide (x6_3<a1)=false:=decide_eq_false c10;clear c10;have H':=aM H;clear H;go_wp2;go_roundg k3;(case measure=>have:=HJ2.out;have:=HK2.out;have:=HK3.out;omega);(case rel=>exact ⟨(wrap64 (x5_2+1)),zt,H',⟨by have:=HJ2.out;have:=HK2.out;have:=HK3.out;omega⟩,by repeat (first|exact Drawn0.refl _|apply Drawn0.step)⟩)
       ·rw [if_neg c9] at H;have c9b0:(((rd_L1 l0 x5_2).length:Int) == a1)=false:=beq_eq_false_iff_ne.mpr c9;have c9b1:(((rd_L1 l0 x5_2).length:Int) != a1)=true:=bne_iff_ne.mpr c9;obtain rfl:=Option.some.inj H;have p217:0≤(x5_2:Int):=zd;have q217:x5_2<(l0.length:Int):=zd;obtain ⟨ad217,A217_0,c217_0,e217,hx217_0,hl217_0,hi217_0⟩:=at_L1 HR0.out x5_2 p217 q217;cases e217;have HR217_0:=aM hi217_0;have HC217_0:=aM hl217_0;clear hi217_0 hl217_0;replace p217:=eq_true p217;replace q217:=eq_true q217;go_wp2;go_ret;exact ⟨zt,zz⟩
      ·rw [if_neg c7] at H;have c7b0:decide (x5_2<(l0.length:Int))=false:=decide_eq_false c7;clear c7;obtain rfl:=Option.some.inj H;go_wp2;go_ret;exact ⟨zt,zz⟩
def spec_IsSystem.l0 : Nat → List (List Int) → List Int → Int → Int → Option (Bool)
 | 0, _, _, _, _ => none
 | k + 1, x0, x1, x2, x7 => if x7 < (x1.length : Int) then (if 0 ≤ x7 then ((spec_l1In.f (rd x1 x7) (-1000) 1000).bind fun t222 => (if t222 = true then (spec_IsSystem.l0 k x0 x1 x2 (wrap64 (x7 + 1))) else (some false))) else (none)) else ((spec_IsMatrix.f k x0 x2).bind fun t223 => (if t223 = true then (some ((x1.length : Int) == (x0.length : Int))) else (some false)))
def spec_IsSystem.f (k : Nat) (l0 : List (List Int)) (l1 : List Int) (a2 : Int) : Option (Bool) := spec_IsSystem.l0 k l0 l1 a2 0
set_option maxHeartbeats 8000000 in
set_option maxRecDepth 100000 in
theorem spec_IsSystem.calls (k : Nat) (A0 : Option Addr) (c0 : Nat) (l0 : List (List Int)) (A1 : Option Addr) (c1 : Nat) (l1 : List Int) (a2 : Int) (r : Bool) (w : World) (hr0 : Kd.C (Kd.slice 3 (Kd.int .i64)) w A0 l0.length l0) (hc0 : l0.length ≤ c0) (hr1 : Kd.C (Kd.int .i64) w A1 l1.length l1) (hc1 : l1.length ≤ c1) (h : spec_IsSystem.f k l0 l1 a2 = some r) :
 Calls Try.prog 84 #[.slice A0 l0.length c0, .slice A1 l1.length c1, .int .i64 a2] w fun e w' => e = .returned (.bool r) ∧ Drawn0 w w' := by
 have HR0:=aM hr0;have HC0:=aM hc0;clear hr0 hc0;have HR1:=aM hr1;have HC1:=aM hc1;clear hr1 hc1;have H:(spec_IsSystem.l0 k l0 l1 a2 0)=some r:=h;clear h;have H':=aM H;clear H;go_enter Try.func84,Try.ntmps84;go_wp2;go_loopg [7] k (fun kq v7 w'=>∃(x7_1:Int),v7 = .int .i64 x7_1∧Aside0 (spec_IsSystem.l0 kq l0 l1 a2 x7_1=some r)∧Aside0 (kq≤k)∧Drawn0 w w');(case atStart=>exact ⟨(0),zt,H',⟨Nat.le_refl _⟩,by repeat (first|exact Drawn0.refl _|apply Drawn0.step)⟩)
 case round=>
  clear H';(try clear c1);(try clear p2);obtain ⟨x7_1,rfl,HA,HK1,⟨m1,rfl⟩⟩:=hrel;cases gk with
  | zero=>exact absurd HA.out (by simp [spec_IsSystem.l0])
  | succ k1=>
   have H:=HA.out;clear HA;simp only [spec_IsSystem.l0] at H;by_cases c4:x7_1<(l1.length:Int)
   ·rw [if_pos c4] at H;have c4b0:decide (x7_1<(l1.length:Int))=true:=decide_eq_true c4;clear c4;obtain ⟨c5b0,H⟩:=iN H;obtain ⟨t222,A6,H⟩:=bz H;by_cases c7:t222=true
    ·subst c7;replace H:=ifT H;have H':=aM H;clear H;have p221:0≤(x7_1:Int):=zd;have q221:x7_1<(l1.length:Int):=zd;obtain ⟨ad221,e221,hx221_0⟩:=Kd.at_int HR1.out x7_1 p221 q221;cases e221;replace p221:=eq_true p221;replace q221:=eq_true q221;go_wp2_with (first|((with_reducible refine gate_callee (f:=83) rfl ?_);refine gm (some 18) Try.func83 #[.int .i64 (rd l1 x7_1),.int .i64 (-1000),.int .i64 1000] ?_;(with_reducible refine (spec_l1In.calls (rd l1 x7_1) (-1000) 1000 true _ A6.out).mono ?_);rintro e w' ⟨rfl,⟨nd,rfl⟩⟩;refine ⟨_,rfl,?_⟩));go_roundg k1;(case measure=>have:=HK1.out;omega);(case rel=>exact ⟨(wrap64 (x7_1+1)),zt,H',⟨by have:=HK1.out;omega⟩,by repeat (first|exact Drawn0.refl _|apply Drawn0.step)⟩)
    ·replace c7:=Bool.eq_false_iff.mpr c7;subst c7;replace H:=ifF H;obtain rfl:=Option.some.inj H;have p221:0≤(x7_1:Int):=zd;have q221:x7_1<(l1.length:Int):=zd;obtain ⟨ad221,e221,hx221_0⟩:=Kd.at_int HR1.out x7_1 p221 q221;cases e221;replace p221:=eq_true p221;replace q221:=eq_true q221;go_wp2_with (first|((with_reducible refine gate_callee (f:=83) rfl ?_);refine gm (some 18) Try.func83 #[.int .i64 (rd l1 x7_1),.int .i64 (-1000),.int .i64 1000] ?_;(with_reducible refine (spec_l1In.calls (rd l1 x7_1) (-1000) 1000 false _ A6.out).mono ?_);rintro e w' ⟨rfl,⟨nd,rfl⟩⟩;refine ⟨_,rfl,?_⟩));go_ret;exact ⟨zt,zz⟩
   ·rw [if_neg c4] at H;have c4b0:decide (x7_1<(l1.length:Int))=false:=decide_eq_false c4;clear c4;obtain ⟨t223,A8,H⟩:=bz H;by_cases c9:t223=true
    ·subst c9;replace H:=ifT H;obtain rfl:=Option.some.inj H;go_wp2_with (first|((with_reducible refine gate_callee (f:=41) rfl ?_);refine gm (some 22) Try.func41 #[.slice A0 l0.length c0,.int .i64 a2] ?_;(with_reducible refine (spec_IsMatrix.calls k1 _ _ l0 a2 true _ ?side1 ?side2 A8.out).mono ?_);(case side1=>exact zc HR0.out);(case side2=>exact HC0.out);rintro e w' ⟨rfl,⟨nd,rfl⟩⟩;refine ⟨_,rfl,?_⟩));go_ret;exact ⟨zt,zz⟩
    ·replace c9:=Bool.eq_false_iff.mpr c9;subst c9;replace H:=ifF H;obtain rfl:=Option.some.inj H;go_wp2_with (first|((with_reducible refine gate_callee (f:=41) rfl ?_);refine gm (some 22) Try.func41 #[.slice A0 l0.length c0,.int .i64 a2] ?_;(with_reducible refine (spec_IsMatrix.calls k1 _ _ l0 a2 false _ ?side1 ?side2 A8.out).mono ?_);(case side1=>exact zc HR0.out);(case side2=>exact HC0.out);rintro e w' ⟨rfl,⟨nd,rfl⟩⟩;refine ⟨_,rfl,?_⟩));go_ret;exact ⟨zt,zz⟩
mutual
def spec_FitsSystem.l0 : Nat → List (List Int) → List Int → List (S26) → Int → Option (Bool)
 | 0, _, _, _, _ => none
 | k + 1, x0, x1, x2, x7 => if x7 < (x2.length : Int) then (if 0 ≤ x7 then ((spec_IsRatio.f k ((rd_T26 x2 x7).f0) ((rd_T26 x2 x7).f1)).bind fun t226 => (if t226 = true then (spec_FitsSystem.l0 k x0 x1 x2 (wrap64 (x7 + 1))) else (some false))) else (none)) else (spec_FitsSystem.l1 k x0 x1 x2 0)
def spec_FitsSystem.l1 : Nat → List (List Int) → List Int → List (S26) → Int → Option (Bool)
 | 0, _, _, _, _ => none
 | k + 1, x0, x1, x2, x8 => if x8 < (x0.length : Int) then (if 0 ≤ x8 then ((spec_l6Dot.f k (rd_L1 x0 x8) x2).bind fun bt228 => (if bt228.2.2 = true then (if x8 < (x1.length : Int) then (if (!(bt228.1 == (rd x1 x8)) || (!(bt228.2.1 == 1))) = true then (some false) else (spec_FitsSystem.l1 k x0 x1 x2 (wrap64 (x8 + 1)))) else (none)) else (some false))) else (none)) else (some true)
end
def spec_FitsSystem.f (k : Nat) (l0 : List (List Int)) (l1 : List Int) (l2 : List (S26)) : Option (Bool) := (spec_IsSystem.f k l0 l1 (l2.length : Int)).bind fun t224 => (if t224 = true then (spec_FitsSystem.l0 k l0 l1 l2 0) else (some false))
set_option maxHeartbeats 8000000 in
set_option maxRecDepth 100000 in
theorem spec_FitsSystem.calls (k : Nat) (A0 : Option Addr) (c0 : Nat) (l0 : List (List Int)) (A1 : Option Addr) (c1 : Nat) (l1 : List Int) (A2 : Option Addr) (c2 : Nat) (l2 : List (S26)) (r : Bool) (w : World) (hr0 : Kd.C (Kd.slice 3 (Kd.int .i64)) w A0 l0.length l0) (hc0 : l0.length ≤ c0) (hr1 : Kd.C (Kd.int .i64) w A1 l1.length l1) (hc1 : l1.length ≤ c1) (hr2 : Kd.C k26 w A2 l2.length l2) (hc2 : l2.length ≤ c2) (h : spec_FitsSystem.f k l0 l1 l2 = some r) :
 Calls Try.prog 46 #[.slice A0 l0.length c0, .slice A1 l1.length c1, .slice A2 l2.length c2] w fun e w' => e = .returned (.bool r) ∧ Below w.heap.size w w' := by
 have hu26:=Try.underlying26;have HR0:=aM hr0;have HC0:=aM hc0;clear hr0 hc0;have HR1:=aM hr1;have HC1:=aM hc1;clear hr1 hc1;have HR2:=aM hr2;have HC2:=aM hc2;clear hr2 hc2;have HB:=aM (Below.refl w.heap.size w);have H:((spec_IsSystem.f k l0 l1 (l2.length:Int)).bind fun t224=>(if t224=true then (spec_FitsSystem.l0 k l0 l1 l2 0) else (some false)))=some r:=h;clear h;obtain ⟨t224,A4,H⟩:=bz H;by_cases c5:t224=true
 ·subst c5;replace H:=ifT H;have H':=aM H;clear H;go_enter Try.func46,Try.ntmps46;go_wp2_with (first|(go_at_call 84;(with_reducible refine (spec_IsSystem.calls k _ _ l0 _ _ l1 (l2.length:Int) true _ ?side1 ?side2 ?side3 ?side4 A4.out).mono ?_);(case side1=>exact zc HR0.out);(case side2=>exact HC0.out);(case side3=>exact zc HR1.out);(case side4=>exact HC1.out);rintro e w' ⟨rfl,⟨nd,rfl⟩⟩;(try first|exact ⟨rfl,_,World.drewN_drewN _ _ _⟩|exact ⟨rfl,_,Eq.trans (World.drewN_drewN _ _ _) (congrArg (World.drewN _) (Nat.add_assoc _ _ _))⟩)));(repeat (go_quiet (first|(go_at_call 84;(with_reducible refine (spec_IsSystem.calls k _ _ l0 _ _ l1 (l2.length:Int) true _ ?side1 ?side2 ?side3 ?side4 A4.out).mono ?_);(case side1=>exact zc HR0.out);(case side2=>exact HC0.out);(case side3=>exact zc HR1.out);(case side4=>exact HC1.out);rintro e w' ⟨rfl,⟨nd,rfl⟩⟩;(try first|exact ⟨rfl,_,World.drewN_drewN _ _ _⟩|exact ⟨rfl,_,Eq.trans (World.drewN_drewN _ _ _) (congrArg (World.drewN _) (Nat.add_assoc _ _ _))⟩)));try go_wp2_with (first|(go_at_call 84;(with_reducible refine (spec_IsSystem.calls k _ _ l0 _ _ l1 (l2.length:Int) true _ ?side1 ?side2 ?side3 ?side4 A4.out).mono ?_);(case side1=>exact zc HR0.out);(case side2=>exact HC0.out);(case side3=>exact zc HR1.out);(case side4=>exact HC1.out);rintro e w' ⟨rfl,⟨nd,rfl⟩⟩;(try first|exact ⟨rfl,_,World.drewN_drewN _ _ _⟩|exact ⟨rfl,_,Eq.trans (World.drewN_drewN _ _ _) (congrArg (World.drewN _) (Nat.add_assoc _ _ _))⟩)))));go_loopg [7] k (fun kq v7 w'=>∃(x7_1:Int),v7 = .int .i64 x7_1∧Aside0 (spec_FitsSystem.l0 kq l0 l1 l2 x7_1=some r)∧Aside0 (kq≤k)∧Aside0 (Below w.heap.size w w'));(case atStart=>exact ⟨(0),zt,H',⟨Nat.le_refl _⟩,⟨zb HB.out⟩⟩)
  case round=>
   clear H';(try clear c1);(try clear c2);(try clear p2);(try clear c4);(try clear c5);obtain ⟨x7_1,rfl,HA,HK1,HB⟩:=hrel;cases gk with
   | zero=>exact absurd HA.out (by simp [spec_FitsSystem.l0])
   | succ k1=>
    have H:=HA.out;clear HA;simp only [spec_FitsSystem.l0] at H;by_cases c6:x7_1<(l2.length:Int)
    ·rw [if_pos c6] at H;have c6b0:decide (x7_1<(l2.length:Int))=true:=decide_eq_true c6;clear c6;obtain ⟨c7b0,H⟩:=iN H;obtain ⟨t226,A8,H⟩:=bz H;by_cases c9:t226=true
     ·subst c9;replace H:=ifT H;have H':=aM H;clear H;have p225:0≤(x7_1:Int):=zd;have q225:x7_1<(l2.length:Int):=zd;obtain ⟨ad225,e225,hx225_0,hx225_1⟩:=at_T26 HR2.out x7_1 p225 q225;cases e225;replace hx225_0:=(HB.out.cell (World.block_lt_of_cell? w _ hx225_0)).trans hx225_0;replace hx225_1:=(HB.out.cell (World.block_lt_of_cell? w _ hx225_1)).trans hx225_1;replace p225:=eq_true p225;replace q225:=eq_true q225;go_wp2_with (first|(go_at_call 85;(with_reducible refine (spec_IsRatio.calls k1 ((rd_T26 l2 x7_1).f0) ((rd_T26 l2 x7_1).f1) true _ A8.out).mono ?_);rintro e w10 ⟨rfl,hb⟩;replace HB:=aM (below_step (zb HB.out) hb);(try clear hb);(try clear hb2);(try clear hk);(try clear hi)));(repeat (go_quiet (first|(go_at_call 85;(with_reducible refine (spec_IsRatio.calls k1 ((rd_T26 l2 x7_1).f0) ((rd_T26 l2 x7_1).f1) true _ A8.out).mono ?_);rintro e w10 ⟨rfl,hb⟩;replace HB:=aM (below_step (zb HB.out) hb);(try clear hb);(try clear hb2);(try clear hk);(try clear hi)));try go_wp2_with (first|(go_at_call 85;(with_reducible refine (spec_IsRatio.calls k1 ((rd_T26 l2 x7_1).f0) ((rd_T26 l2 x7_1).f1) true _ A8.out).mono ?_);rintro e w10 ⟨rfl,hb⟩;replace HB:=aM (below_step (zb HB.out) hb);(try clear hb);(try clear hb2);(try clear hk);(try clear hi)))));go_roundg k1;(case measure=>have:=HK1.out;omega);(case rel=>exact ⟨(wrap64 (x7_1+1)),zt,H',⟨by have:=HK1.out;omega⟩,⟨zb HB.out⟩⟩)
     ·replace c9:=Bool.eq_false_iff.mpr c9;subst c9;replace H:=ifF H;obtain rfl:=Option.some.inj H;have p225:0≤(x7_1:Int):=zd;have q225:x7_1<(l2.length:Int):=zd;obtain ⟨ad225,e225,hx225_0,hx225_1⟩:=at_T26 HR2.out x7_1 p225 q225;cases e225;replace hx225_0:=(HB.out.cell (World.block_lt_of_cell? w _ hx225_0)).trans hx225_0;replace hx225_1:=(HB.out.cell (World.block_lt_of_cell? w _ hx225_1)).trans hx225_1;replace p225:=eq_true p225;replace q225:=eq_true q225;go_wp2_with (first|(go_at_call 85;(with_reducible refine (spec_IsRatio.calls k1 ((rd_T26 l2 x7_1).f0) ((rd_T26 l2 x7_1).f1) false _ A8.out).mono ?_);rintro e w11 ⟨rfl,hb⟩;replace HB:=aM (below_step (zb HB.out) hb);(try clear hb);(try clear hb2);(try clear hk);(try clear hi)));(repeat (go_quiet (first|(go_at_call 85;(with_reducible refine (spec_IsRatio.calls k1 ((rd_T26 l2 x7_1).f0) ((rd_T26 l2 x7_1).f1) false _ A8.out).mono ?_);rintro e w11 ⟨rfl,hb⟩;replace HB:=aM (below_step (zb HB.out) hb);(try clear hb);(try clear hb2);(try clear hk);(try clear hi)));try go_wp2_with (first|(go_at_call 85;(with_reducible refine (spec_IsRatio.calls k1 ((rd_T26 l2 x7_1).f0) ((rd_T26 l2 x7_1).f1) false _ A8.out).mono ?_);rintro e w11 ⟨rfl,hb⟩;replace HB:=aM (below_step (zb HB.out) hb);(try clear hb);(try clear hb2);(try clear hk);(try clear hi)))));go_ret;exact ⟨by first|rfl|(simp [errW_none,errW_some]<;>rfl)|(simp [*,errW_none,errW_some]<;>rfl),zb HB.out⟩
    ·rw [if_neg c6] at H;have c6b0:decide (x7_1<(l2.length:Int))=false:=decide_eq_false c6;clear c6;have H':=aM H;clear H;go_wp2;(repeat (go_quiet (fail);try go_wp2));go_loopg [8] k1 (fun kq v8 w'=>∃(x8_2:Int),v8 = .int .i64 x8_2∧Aside0 (spec_FitsSystem.l1 kq l0 l1 l2 x8_2=some r)∧Aside0 (kq≤k1)∧Aside0 (Below w.heap.size w w'));(case atStart=>exact ⟨(0),zt,H',⟨Nat.le_refl _⟩,⟨zb HB.out⟩⟩)
     case round=>
      clear H';(try clear c1);(try clear c2);(try clear p2);(try clear q2);(try clear hx2);(try clear c4);(try clear c5);(try clear c6);(try clear c6b0);(try clear p6);(try clear c7);(try clear c7b0);(try clear c9);(try clear hx225_0);(try clear hx225_1);(try clear p2);(try clear p225);(try clear q225);obtain ⟨x8_2,rfl,HA,HK2,HB⟩:=hrel;cases gk with
      | zero=>exact absurd HA.out (by simp [spec_FitsSystem.l1])
      | succ k2=>
       have H:=HA.out;clear HA;simp only [spec_FitsSystem.l1] at H;by_cases c12:x8_2<(l0.length:Int)
       ·rw [if_pos c12] at H;have c12b0:decide (x8_2<(l0.length:Int))=true:=decide_eq_true c12;clear c12;obtain ⟨c13b0,H⟩:=iN H;obtain ⟨⟨t228,t229,t230⟩,A14,H⟩:=bz H;dsimp only at H;by_cases c15:t230=true
        ·subst c15;replace H:=ifT H;obtain ⟨c16b0,H⟩:=iN H;by_cases c17:(!(t228 == (rd l1 x8_2)) || (!(t229 == 1)))=true
         ·rw [if_pos c17] at H;have c17b0:(!(t228 == (rd l1 x8_2)) || (!(t229 == 1)))=true:=c17;clear c17;obtain rfl:=Option.some.inj H;have p227:0≤(x8_2:Int):=zd;have q227:x8_2<(l0.length:Int):=zd;obtain ⟨ad227,A227_0,c227_0,e227,hx227_0,hl227_0,hi227_0⟩:=at_L1 HR0.out x8_2 p227 q227;cases e227;replace hx227_0:=(HB.out.cell (World.block_lt_of_cell? w _ hx227_0)).trans hx227_0;have HR227_0:=aM hi227_0;have HC227_0:=aM hl227_0;clear hi227_0 hl227_0;replace p227:=eq_true p227;replace q227:=eq_true q227;go_wp2_with (first|(go_at_call 57;(with_reducible refine (spec_l6Dot.calls k2 _ _ (rd_L1 l0 x8_2) _ _ l2 t228 t229 true _ ?side1 ?side2 ?side3 ?side4 A14.out).mono ?_);(case side1=>exact zc (Kd.C_below HR227_0.out HB.out));(case side2=>exact HC227_0.out);(case side3=>exact zc (Kd.C_below HR2.out HB.out));(case side4=>exact HC2.out);rintro e w18 ⟨rfl,hb⟩;replace HB:=aM (below_step (zb HB.out) hb);(try clear hb);(try clear hb2);(try clear hk);(try clear hi))|((with_reducible refine gate_dst (N:=9) rfl ?_);refine box_event ?hg (N:=9) ?hd (cs:=#[.int .i64 0,.int .i64 0]) (t:=26) ?hr ?_;(case hd=>rfl);(case hg=>rfl);(case hr=>first|(go_simp;done)|(go_simp;rfl));intro gb231 hg w19 hbox hb;have BK231:=aM (hbox);have GW231:=aM (zg hg (zb HB.out));have GE231:=aM (zg hg (zb HB.out));replace HB:=aM (below_step (zb HB.out) hb);clear hb hbox hg;have hcz20_0:w19.cell? ⟨gb231,0,none⟩=some (.int .i64 0):=(blk_cell BK231.out 0).trans rfl;have hcz20_1:w19.cell? ⟨gb231,1,none⟩=some (.int .i64 0):=(blk_cell BK231.out 1).trans rfl;have hfz20_0:=blk_frozen BK231.out 0;have hfz20_1:=blk_frozen BK231.out 1;have p232:0≤(x8_2:Int):=zd;have q232:x8_2<(l1.length:Int):=zd;obtain ⟨ad232,e232,hx232_0⟩:=Kd.at_int HR1.out x8_2 p232 q232;cases e232;have hn232_0:ad232.block≠gb231:=Nat.ne_of_lt (Nat.lt_of_lt_of_le (by have:=World.block_lt_of_cell? _ _ hx232_0;first|rwa [add_block] at this|exact this) GW231.out);have hn232_1:ad232.block≠gb231:=Nat.ne_of_lt (Nat.lt_of_lt_of_le (by have:=World.block_lt_of_cell? _ _ hx232_0;first|rwa [add_block] at this|exact this) GW231.out);replace hx232_0:=(HB.out.cell (World.block_lt_of_cell? w _ hx232_0)).trans hx232_0;replace hx232_0:=(cell_far (p:=⟨gb231,0,none⟩) (by first|(rw [add_block];exact hn232_0)|(show (Addr.add _ _).block≠_;rw [add_block];exact hn232_0)|exact hn232_0) (.int .i64 t228)).trans hx232_0;replace hx232_0:=(cell_far (p:=⟨gb231,1,none⟩) (by first|(rw [add_block];exact hn232_1)|(show (Addr.add _ _).block≠_;rw [add_block];exact hn232_1)|exact hn232_1) (.int .i64 t229)).trans hx232_0;(try have hy232_0:=fun (n_:Nat)=>(show ((((w19.drewN n_).setCell ⟨gb231,0,none⟩ (.int .i64 t228)).setCell ⟨gb231,1,none⟩ (.int .i64 t229))).cell? _=some _ from hx232_0));clear hn232_0 hn232_1;replace p232:=eq_true p232;replace q232:=eq_true q232));(repeat (go_quiet (first|(go_at_call 57;(with_reducible refine (spec_l6Dot.calls k2 _ _ (rd_L1 l0 x8_2) _ _ l2 t228 t229 true _ ?side1 ?side2 ?side3 ?side4 A14.out).mono ?_);(case side1=>exact zc (Kd.C_below HR227_0.out HB.out));(case side2=>exact HC227_0.out);(case side3=>exact zc (Kd.C_below HR2.out HB.out));(case side4=>exact HC2.out);rintro e w18 ⟨rfl,hb⟩;replace HB:=aM (below_step (zb HB.out) hb);(try clear hb);(try clear hb2);(try clear hk);(try clear hi))|((with_reducible refine gate_dst (N:=9) rfl ?_);refine box_event ?hg (N:=9) ?hd (cs:=#[.int .i64 0,.int .i64 0]) (t:=26) ?hr ?_;(case hd=>rfl);(case hg=>rfl);(case hr=>first|(go_simp;done)|(go_simp;rfl));intro gb231 hg w19 hbox hb;have BK231:=aM (hbox);have GW231:=aM (zg hg (zb HB.out));have GE231:=aM (zg hg (zb HB.out));replace HB:=aM (below_step (zb HB.out) hb);clear hb hbox hg;have hcz20_0:w19.cell? ⟨gb231,0,none⟩=some (.int .i64 0):=(blk_cell BK231.out 0).trans rfl;have hcz20_1:w19.cell? ⟨gb231,1,none⟩=some (.int .i64 0):=(blk_cell BK231.out 1).trans rfl;have hfz20_0:=blk_frozen BK231.out 0;have hfz20_1:=blk_frozen BK231.out 1;have p232:0≤(x8_2:Int):=zd;have q232:x8_2<(l1.length:Int):=zd;obtain ⟨ad232,e232,hx232_0⟩:=Kd.at_int HR1.out x8_2 p232 q232;cases e232;have hn232_0:ad232.block≠gb231:=Nat.ne_of_lt (Nat.lt_of_lt_of_le (by have:=World.block_lt_of_cell? _ _ hx232_0;first|rwa [add_block] at this|exact this) GW231.out);have hn232_1:ad232.block≠gb231:=Nat.ne_of_lt (Nat.lt_of_lt_of_le (by have:=World.block_lt_of_cell? _ _ hx232_0;first|rwa [add_block] at this|exact this) GW231.out);replace hx232_0:=(HB.out.cell (World.block_lt_of_cell? w _ hx232_0)).trans hx232_0;replace hx232_0:=(cell_far (p:=⟨gb231,0,none⟩) (by first|(rw [add_block];exact hn232_0)|(show (Addr.add _ _).block≠_;rw [add_block];exact hn232_0)|exact hn232_0) (.int .i64 t228)).trans hx232_0;replace hx232_0:=(cell_far (p:=⟨gb231,1,none⟩) (by first|(rw [add_block];exact hn232_1)|(show (Addr.add _ _).block≠_;rw [add_block];exact hn232_1)|exact hn232_1) (.int .i64 t229)).trans hx232_0;(try have hy232_0:=fun (n_:Nat)=>(show ((((w19.drewN n_).setCell ⟨gb231,0,none⟩ (.int .i64 t228)).setCell ⟨gb231,1,none⟩ (.int .i64 t229))).cell? _=some _ from hx232_0));clear hn232_0 hn232_1;replace p232:=eq_true p232;replace q232:=eq_true q232));try go_wp2_with (first|(go_at_call 57;(with_reducible refine (spec_l6Dot.calls k2 _ _ (rd_L1 l0 x8_2) _ _ l2 t228 t229 true _ ?side1 ?side2 ?side3 ?side4 A14.out).mono ?_);(case side1=>exact zc (Kd.C_below HR227_0.out HB.out));(case side2=>exact HC227_0.out);(case side3=>exact zc (Kd.C_below HR2.out HB.out));(case side4=>exact HC2.out);rintro e w18 ⟨rfl,hb⟩;replace HB:=aM (below_step (zb HB.out) hb);(try clear hb);(try clear hb2);(try clear hk);(try clear hi))|((with_reducible refine gate_dst (N:=9) rfl ?_);refine box_event ?hg (N:=9) ?hd (cs:=#[.int .i64 0,.int .i64 0]) (t:=26) ?hr ?_;(case hd=>rfl);(case hg=>rfl);(case hr=>first|(go_simp;done)|(go_simp;rfl));intro gb231 hg w19 hbox hb;have BK231:=aM (hbox);have GW231:=aM (zg hg (zb HB.out));have GE231:=aM (zg hg (zb HB.out));replace HB:=aM (below_step (zb HB.out) hb);clear hb hbox hg;have hcz20_0:w19.cell? ⟨gb231,0,none⟩=some (.int .i64 0):=(blk_cell BK231.out 0).trans rfl;have hcz20_1:w19.cell? ⟨gb231,1,none⟩=some (.int .i64 0):=(blk_cell BK231.out 1).trans rfl;have hfz20_0:=blk_frozen BK231.out 0;have hfz20_1:=blk_frozen BK231.out 1;have p232:0≤(x8_2:Int):=zd;have q232:x8_2<(l1.length:Int):=zd;obtain ⟨ad232,e232,hx232_0⟩:=Kd.at_int HR1.out x8_2 p232 q232;cases e232;have hn232_0:ad232.block≠gb231:=Nat.ne_of_lt (Nat.lt_of_lt_of_le (by have:=World.block_lt_of_cell? _ _ hx232_0;first|rwa [add_block] at this|exact this) GW231.out);have hn232_1:ad232.block≠gb231:=Nat.ne_of_lt (Nat.lt_of_lt_of_le (by have:=World.block_lt_of_cell? _ _ hx232_0;first|rwa [add_block] at this|exact this) GW231.out);replace hx232_0:=(HB.out.cell (World.block_lt_of_cell? w _ hx232_0)).trans hx232_0;replace hx232_0:=(cell_far (p:=⟨gb231,0,none⟩) (by first|(rw [add_block];exact hn232_0)|(show (Addr.add _ _).block≠_;rw [add_block];exact hn232_0)|exact hn232_0) (.int .i64 t228)).trans hx232_0;replace hx232_0:=(cell_far (p:=⟨gb231,1,none⟩) (by first|(rw [add_block];exact hn232_1)|(show (Addr.add _ _).block≠_;rw [add_block];exact hn232_1)|exact hn232_1) (.int .i64 t229)).trans hx232_0;(try have hy232_0:=fun (n_:Nat)=>(show ((((w19.drewN n_).setCell ⟨gb231,0,none⟩ (.int .i64 t228)).setCell ⟨gb231,1,none⟩ (.int .i64 t229))).cell? _=some _ from hx232_0));clear hn232_0 hn232_1;replace p232:=eq_true p232;replace q232:=eq_true q232))));go_ret;exact ⟨by first|rfl|(simp [errW_none,errW_some]<;>rfl)|(simp [*,errW_none,errW_some]<;>rfl),zs HB.out⟩
         ·rw [if_neg c17] at H;have c17b0:(!(t228 == (rd l1 x8_2)) || (!(t229 == 1)))=false:=(by simpa using c17);clear c17;have H':=aM H;clear H;have p227:0≤(x8_2:Int):=zd;have q227:x8_2<(l0.length:Int):=zd;obtain ⟨ad227,A227_0,c227_0,e227,hx227_0,hl227_0,hi227_0⟩:=at_L1 HR0.out x8_2 p227 q227;cases e227;replace hx227_0:=(HB.out.cell (World.block_lt_of_cell? w _ hx227_0)).trans hx227_0;have HR227_0:=aM hi227_0;have HC227_0:=aM hl227_0;clear hi227_0 hl227_0;replace p227:=eq_true p227;replace q227:=eq_true q227;go_wp2_with (first|(go_at_call 57;(with_reducible refine (spec_l6Dot.calls k2 _ _ (rd_L1 l0 x8_2) _ _ l2 t228 t229 true _ ?side1 ?side2 ?side3 ?side4 A14.out).mono ?_);(case side1=>exact zc (Kd.C_below HR227_0.out HB.out));(case side2=>exact HC227_0.out);(case side3=>exact zc (Kd.C_below HR2.out HB.out));(case side4=>exact HC2.out);rintro e w21 ⟨rfl,hb⟩;replace HB:=aM (below_step (zb HB.out) hb);(try clear hb);(try clear hb2);(try clear hk);(try clear hi))|((with_reducible refine gate_dst (N:=9) rfl ?_);refine box_event ?hg (N:=9) ?hd (cs:=#[.int .i64 0,.int .i64 0]) (t:=26) ?hr ?_;(case hd=>rfl);(case hg=>rfl);(case hr=>first|(go_simp;done)|(go_simp;rfl));intro gb231 hg w22 hbox hb;have BK231:=aM (hbox);have GW231:=aM (zg hg (zb HB.out));have GE231:=aM (zg hg (zb HB.out));replace HB:=aM (below_step (zb HB.out) hb);clear hb hbox hg;have hcz23_0:w22.cell? ⟨gb231,0,none⟩=some (.int .i64 0):=(blk_cell BK231.out 0).trans rfl;have hcz23_1:w22.cell? ⟨gb231,1,none⟩=some (.int .i64 0):=(blk_cell BK231.out 1).trans rfl;have hfz23_0:=blk_frozen BK231.out 0;have hfz23_1:=blk_frozen BK231.out 1;have p232:0≤(x8_2:Int):=zd;have q232:x8_2<(l1.length:Int):=zd;obtain ⟨ad232,e232,hx232_0⟩:=Kd.at_int HR1.out x8_2 p232 q232;cases e232;have hn232_0:ad232.block≠gb231:=Nat.ne_of_lt (Nat.lt_of_lt_of_le (by have:=World.block_lt_of_cell? _ _ hx232_0;first|rwa [add_block] at this|exact this) GW231.out);have hn232_1:ad232.block≠gb231:=Nat.ne_of_lt (Nat.lt_of_lt_of_le (by have:=World.block_lt_of_cell? _ _ hx232_0;first|rwa [add_block] at this|exact this) GW231.out);replace hx232_0:=(HB.out.cell (World.block_lt_of_cell? w _ hx232_0)).trans hx232_0;replace hx232_0:=(cell_far (p:=⟨gb231,0,none⟩) (by first|(rw [add_block];exact hn232_0)|(show (Addr.add _ _).block≠_;rw [add_block];exact hn232_0)|exact hn232_0) (.int .i64 t228)).trans hx232_0;replace hx232_0:=(cell_far (p:=⟨gb231,1,none⟩) (by first|(rw [add_block];exact hn232_1)|(show (Addr.add _ _).block≠_;rw [add_block];exact hn232_1)|exact hn232_1) (.int .i64 t229)).trans hx232_0;(try have hy232_0:=fun (n_:Nat)=>(show ((((w22.drewN n_).setCell ⟨gb231,0,none⟩ (.int .i64 t228)).setCell ⟨gb231,1,none⟩ (.int .i64 t229))).cell? _=some _ from hx232_0));clear hn232_0 hn232_1;replace p232:=eq_true p232;replace q232:=eq_true q232));(repeat (go_quiet (first|(go_at_call 57;(with_reducible refine (spec_l6Dot.calls k2 _ _ (rd_L1 l0 x8_2) _ _ l2 t228 t229 true _ ?side1 ?side2 ?side3 ?side4 A14.out).mono ?_);(case side1=>exact zc (Kd.C_below HR227_0.out HB.out));(case side2=>exact HC227_0.out);(case side3=>exact zc (Kd.C_below HR2.out HB.out));(case side4=>exact HC2.out);rintro e w21 ⟨rfl,hb⟩;replace HB:=aM (below_step (zb HB.out) hb);(try clear hb);(try clear hb2);(try clear hk);(try clear hi))|((with_reducible refine gate_dst (N:=9) rfl ?_);refine box_event ?hg (N:=9) ?hd (cs:=#[.int .i64 0,.int .i64 0]) (t:=26) ?hr ?_;(case hd=>rfl);(case hg=>rfl);(case hr=>first|(go_simp;done)|(go_simp;rfl));intro gb231 hg w22 hbox hb;have BK231:=aM (hbox);have GW231:=aM (zg hg (zb HB.out));have GE231:=aM (zg hg (zb HB.out));replace HB:=aM (below_step (zb HB.out) hb);clear hb hbox hg;have hcz23_0:w22.cell? ⟨gb231,0,none⟩=some (.int .i64 0):=(blk_cell BK231.out 0).trans rfl;have hcz23_1:w22.cell? ⟨gb231,1,none⟩=some (.int .i64 0):=(blk_cell BK231.out 1).trans rfl;have hfz23_0:=blk_frozen BK231.out 0;have hfz23_1:=blk_frozen BK231.out 1;have p232:0≤(x8_2:Int):=zd;have q232:x8_2<(l1.length:Int):=zd;obtain ⟨ad232,e232,hx232_0⟩:=Kd.at_int HR1.out x8_2 p232 q232;cases e232;have hn232_0:ad232.block≠gb231:=Nat.ne_of_lt (Nat.lt_of_lt_of_le (by have:=World.block_lt_of_cell? _ _ hx232_0;first|rwa [add_block] at this|exact this) GW231.out);have hn232_1:ad232.block≠gb231:=Nat.ne_of_lt (Nat.lt_of_lt_of_le (by have:=World.block_lt_of_cell? _ _ hx232_0;first|rwa [add_block] at this|exact this) GW231.out);replace hx232_0:=(HB.out.cell (World.block_lt_of_cell? w _ hx232_0)).trans hx232_0;replace hx232_0:=(cell_far (p:=⟨gb231,0,none⟩) (by first|(rw [add_block];exact hn232_0)|(show (Addr.add _ _).block≠_;rw [add_block];exact hn232_0)|exact hn232_0) (.int .i64 t228)).trans hx232_0;replace hx232_0:=(cell_far (p:=⟨gb231,1,none⟩) (by first|(rw [add_block];exact hn232_1)|(show (Addr.add _ _).block≠_;rw [add_block];exact hn232_1)|exact hn232_1) (.int .i64 t229)).trans hx232_0;(try have hy232_0:=fun (n_:Nat)=>(show ((((w22.drewN n_).setCell ⟨gb231,0,none⟩ (.int .i64 t228)).setCell ⟨gb231,1,none⟩ (.int .i64 t229))).cell? _=some _ from hx232_0));clear hn232_0 hn232_1;replace p232:=eq_true p232;replace q232:=eq_true q232));try go_wp2_with (first|(go_at_call 57;(with_reducible refine (spec_l6Dot.calls k2 _ _ (rd_L1 l0 x8_2) _ _ l2 t228 t229 true _ ?side1 ?side2 ?side3 ?side4 A14.out).mono ?_);(case side1=>exact zc (Kd.C_below HR227_0.out HB.out));(case side2=>exact HC227_0.out);(case side3=>exact zc (Kd.C_below HR2.out HB.out));(case side4=>exact HC2.out);rintro e w21 ⟨rfl,hb⟩;replace HB:=aM (below_step (zb HB.out) hb);(try clear hb);(try clear hb2);(try clear hk);(try clear hi))|((with_reducible refine gate_dst (N:=9) rfl ?_);refine box_event ?hg (N:=9) ?hd (cs:=#[.int .i64 0,.int .i64 0]) (t:=26) ?hr ?_;(case hd=>rfl);(case hg=>rfl);(case hr=>first|(go_simp;done)|(go_simp;rfl));intro gb231 hg w22 hbox hb;have BK231:=aM (hbox);have GW231:=aM (zg hg (zb HB.out));have GE231:=aM (zg hg (zb HB.out));replace HB:=aM (below_step (zb HB.out) hb);clear hb hbox hg;have hcz23_0:w22.cell? ⟨gb231,0,none⟩=some (.int .i64 0):=(blk_cell BK231.out 0).trans rfl;have hcz23_1:w22.cell? ⟨gb231,1,none⟩=some (.int .i64 0):=(blk_cell BK231.out 1).trans rfl;have hfz23_0:=blk_frozen BK231.out 0;have hfz23_1:=blk_frozen BK231.out 1;have p232:0≤(x8_2:Int):=zd;have q232:x8_2<(l1.length:Int):=zd;obtain ⟨ad232,e232,hx232_0⟩:=Kd.at_int HR1.out x8_2 p232 q232;cases e232;have hn232_0:ad232.block≠gb231:=Nat.ne_of_lt (Nat.lt_of_lt_of_le (by have:=World.block_lt_of_cell? _ _ hx232_0;first|rwa [add_block] at this|exact this) GW231.out);have hn232_1:ad232.block≠gb231:=Nat.ne_of_lt (Nat.lt_of_lt_of_le (by have:=World.block_lt_of_cell? _ _ hx232_0;first|rwa [add_block] at this|exact this) GW231.out);replace hx232_0:=(HB.out.cell (World.block_lt_of_cell? w _ hx232_0)).trans hx232_0;replace hx232_0:=(cell_far (p:=⟨gb231,0,none⟩) (by first|(rw [add_block];exact hn232_0)|(show (Addr.add _ _).block≠_;rw [add_block];exact hn232_0)|exact hn232_0) (.int .i64 t228)).trans hx232_0;replace hx232_0:=(cell_far (p:=⟨gb231,1,none⟩) (by first|(rw [add_block];exact hn232_1)|(show (Addr.add _ _).block≠_;rw [add_block];exact hn232_1)|exact hn232_1) (.int .i64 t229)).trans hx232_0;(try have hy232_0:=fun (n_:Nat)=>(show ((((w22.drewN n_).setCell ⟨gb231,0,none⟩ (.int .i64 t228)).setCell ⟨gb231,1,none⟩ (.int .i64 t229))).cell? _=some _ from hx232_0));clear hn232_0 hn232_1;replace p232:=eq_true p232;replace q232:=eq_true q232))));go_roundg k2;(case measure=>have:=HK1.out;have:=HK2.out;omega);(case rel=>exact ⟨(wrap64 (x8_2+1)),zt,H',⟨by have:=HK1.out;have:=HK2.out;omega⟩,⟨zs HB.out⟩⟩)
        ·replace c15:=Bool.eq_false_iff.mpr c15;subst c15;replace H:=ifF H;obtain rfl:=Option.some.inj H;have p227:0≤(x8_2:Int):=zd;have q227:x8_2<(l0.length:Int):=zd;obtain ⟨ad227,A227_0,c227_0,e227,hx227_0,hl227_0,hi227_0⟩:=at_L1 HR0.out x8_2 p227 q227;cases e227;replace hx227_0:=(HB.out.cell (World.block_lt_of_cell? w _ hx227_0)).trans hx227_0;have HR227_0:=aM hi227_0;have HC227_0:=aM hl227_0;clear hi227_0 hl227_0;replace p227:=eq_true p227;replace q227:=eq_true q227;go_wp2_with (first|(go_at_call 57;(with_reducible refine (spec_l6Dot.calls k2 _ _ (rd_L1 l0 x8_2) _ _ l2 t228 t229 false _ ?side1 ?side2 ?side3 ?side4 A14.out).mono ?_);(case side1=>exact zc (Kd.C_below HR227_0.out HB.out));(case side2=>exact HC227_0.out);(case side3=>exact zc (Kd.C_below HR2.out HB.out));(case side4=>exact HC2.out);rintro e w24 ⟨rfl,hb⟩;replace HB:=aM (below_step (zb HB.out) hb);(try clear hb);(try clear hb2);(try clear hk);(try clear hi))|((with_reducible refine gate_dst (N:=9) rfl ?_);refine box_event ?hg (N:=9) ?hd (cs:=#[.int .i64 0,.int .i64 0]) (t:=26) ?hr ?_;(case hd=>rfl);(case hg=>rfl);(case hr=>first|(go_simp;done)|(go_simp;rfl));intro gb231 hg w25 hbox hb;have BK231:=aM (hbox);have GW231:=aM (zg hg (zb HB.out));have GE231:=aM (zg hg (zb HB.out));replace HB:=aM (below_step (zb HB.out) hb);clear hb hbox hg;have hcz26_0:w25.cell? ⟨gb231,0,none⟩=some (.int .i64 0):=(blk_cell BK231.out 0).trans rfl;have hcz26_1:w25.cell? ⟨gb231,1,none⟩=some (.int .i64 0):=(blk_cell BK231.out 1).trans rfl;have hfz26_0:=blk_frozen BK231.out 0;have hfz26_1:=blk_frozen BK231.out 1));(repeat (go_quiet (first|(go_at_call 57;(with_reducible refine (spec_l6Dot.calls k2 _ _ (rd_L1 l0 x8_2) _ _ l2 t228 t229 false _ ?side1 ?side2 ?side3 ?side4 A14.out).mono ?_);(case side1=>exact zc (Kd.C_below HR227_0.out HB.out));(case side2=>exact HC227_0.out);(case side3=>exact zc (Kd.C_below HR2.out HB.out));(case side4=>exact HC2.out);rintro e w24 ⟨rfl,hb⟩;replace HB:=aM (below_step (zb HB.out) hb);(try clear hb);(try clear hb2);(try clear hk);(try clear hi))|((with_reducible refine gate_dst (N:=9) rfl ?_);refine box_event ?hg (N:=9) ?hd (cs:=#[.int .i64 0,.int .i64 0]) (t:=26) ?hr ?_;(case hd=>rfl);(case hg=>rfl);(case hr=>first|(go_simp;done)|(go_simp;rfl));intro gb231 hg w25 hbox hb;have BK231:=aM (hbox);have GW231:=aM (zg hg (zb HB.out));have GE231:=aM (zg hg (zb HB.out));replace HB:=aM (below_step (zb HB.out) hb);clear hb hbox hg;have hcz26_0:w25.cell? ⟨gb231,0,none⟩=some (.int .i64 0):=(blk_cell BK231.out 0).trans rfl;have hcz26_1:w25.cell? ⟨gb231,1,none⟩=some (.int .i64 0):=(blk_cell BK231.out 1).trans rfl;have hfz26_0:=blk_frozen BK231.out 0;have hfz26_1:=blk_frozen BK231.out 1));try go_wp2_with (first|(go_at_call 57;(with_reducible refine (spec_l6Dot.calls k2 _ _ (rd_L1 l0 x8_2) _ _ l2 t228 t229 false _ ?side1 ?side2 ?side3 ?side4 A14.out).mono ?_);(case side1=>exact zc (Kd.C_below HR227_0.out HB.out));(case side2=>exact HC227_0.out);(case side3=>exact zc (Kd.C_below HR2.out HB.out));(case side4=>exact HC2.out);rintro e w24 ⟨rfl,hb⟩;replace HB:=aM (below_step (zb HB.out) hb);(try clear hb);(try clear hb2);(try clear hk);(try clear hi))|((with_reducible refine gate_dst (N:=9) rfl ?_);refine box_event ?hg (N:=9) ?hd (cs:=#[.int .i64 0,.int .i64 0]) (t:=26) ?hr ?_;(case hd=>rfl);(case hg=>rfl);(case hr=>first|(go_simp;done)|(go_simp;rfl));intro gb231 hg w25 hbox hb;have BK231:=aM (hbox);have GW231:=aM (zg hg (zb HB.out));have GE231:=aM (zg hg (zb HB.out));replace HB:=aM (below_step (zb HB.out) hb);clear hb hbox hg;have hcz26_0:w25.cell? ⟨gb231,0,none⟩=some (.int .i64 0):=(blk_cell BK231.out 0).trans rfl;have hcz26_1:w25.cell? ⟨gb231,1,none⟩=some (.int .i64 0):=(blk_cell BK231.out 1).trans rfl;have hfz26_0:=blk_frozen BK231.out 0;have hfz26_1:=blk_frozen BK231.out 1))));go_ret;exact ⟨by first|rfl|(simp [errW_none,errW_some]<;>rfl)|(simp [*,errW_none,errW_some]<;>rfl),zs HB.out⟩
       ·rw [if_neg c12] at H;have c12b0:decide (x8_2<(l0.length:Int))=false:=decide_eq_false c12;clear c12;obtain rfl:=Option.some.inj H;go_wp2;(repeat (go_quiet (fail);try go_wp2));go_ret;exact ⟨by first|rfl|(simp [errW_none,errW_some]<;>rfl)|(simp [*,errW_none,errW_some]<;>rfl),zb HB.out⟩
 ·replace c5:=Bool.eq_false_iff.mpr c5;subst c5;replace H:=ifF H;obtain rfl:=Option.some.inj H;go_enter Try.func46,Try.ntmps46;go_wp2_with (first|(go_at_call 84;(with_reducible refine (spec_IsSystem.calls k _ _ l0 _ _ l1 (l2.length:Int) false _ ?side1 ?side2 ?side3 ?side4 A4.out).mono ?_);(case side1=>exact zc HR0.out);(case side2=>exact HC0.out);(case side3=>exact zc HR1.out);(case side4=>exact HC1.out);rintro e w' ⟨rfl,⟨nd,rfl⟩⟩;(try first|exact ⟨rfl,_,World.drewN_drewN _ _ _⟩|exact ⟨rfl,_,Eq.trans (World.drewN_drewN _ _ _) (congrArg (World.drewN _) (Nat.add_assoc _ _ _))⟩)));(repeat (go_quiet (first|(go_at_call 84;(with_reducible refine (spec_IsSystem.calls k _ _ l0 _ _ l1 (l2.length:Int) false _ ?side1 ?side2 ?side3 ?side4 A4.out).mono ?_);(case side1=>exact zc HR0.out);(case side2=>exact HC0.out);(case side3=>exact zc HR1.out);(case side4=>exact HC1.out);rintro e w' ⟨rfl,⟨nd,rfl⟩⟩;(try first|exact ⟨rfl,_,World.drewN_drewN _ _ _⟩|exact ⟨rfl,_,Eq.trans (World.drewN_drewN _ _ _) (congrArg (World.drewN _) (Nat.add_assoc _ _ _))⟩)));try go_wp2_with (first|(go_at_call 84;(with_reducible refine (spec_IsSystem.calls k _ _ l0 _ _ l1 (l2.length:Int) false _ ?side1 ?side2 ?side3 ?side4 A4.out).mono ?_);(case side1=>exact zc HR0.out);(case side2=>exact HC0.out);(case side3=>exact zc HR1.out);(case side4=>exact HC1.out);rintro e w' ⟨rfl,⟨nd,rfl⟩⟩;(try first|exact ⟨rfl,_,World.drewN_drewN _ _ _⟩|exact ⟨rfl,_,Eq.trans (World.drewN_drewN _ _ _) (congrArg (World.drewN _) (Nat.add_assoc _ _ _))⟩)))));go_ret;exact ⟨by first|rfl|(simp [errW_none,errW_some]<;>rfl)|(simp [*,errW_none,errW_some]<;>rfl),zb HB.out⟩
def laws_toRatio.f (a0_0 : Int) (a0_1 : Int) : Option (Int × Int) := some (a0_0, a0_1)
set_option maxHeartbeats 8000000 in
set_option maxRecDepth 100000 in
theorem laws_toRatio.calls (a0_0 : Int) (a0_1 : Int) (r1 : Int) (r2 : Int) (w : World) (h : laws_toRatio.f a0_0 a0_1 = some (r1, r2)) :
 Calls Try.prog 86 #[.agg #[.int .i64 a0_0, .int .i64 a0_1]] w fun e w' => e = .returned (.agg #[.int .i64 r1, .int .i64 r2]) ∧ Below w.heap.size w w' := by
 have hu83:=Try.underlying83;have hu26:=Try.underlying26;have HB:=aM (Below.refl w.heap.size w);have H:(some (a0_0,a0_1))=some (r1,r2):=h;clear h;simp only [Option.some.injEq,Prod.mk.injEq] at H;obtain ⟨rfl,rfl⟩:=H;go_enter Try.func86,Try.ntmps86;go_wp2_with (first|((with_reducible refine gate_dst (N:=1) rfl ?_);refine box_event ?hg (N:=1) ?hd (cs:=#[.int .i64 a0_0,.int .i64 a0_1]) (t:=83) ?hr ?_;(case hd=>rfl);(case hg=>rfl);(case hr=>first|(go_simp;done)|(go_simp;rfl));intro gb233 hg w2 hbox hb;have BK233:=aM (hbox);have GW233:=aM (zg hg (zb HB.out));have GE233:=aM (zg hg (zb HB.out));replace HB:=aM (below_step (zb HB.out) hb);clear hb hbox hg)|((with_reducible refine gate_dst (N:=2) rfl ?_);refine box_event ?hg (N:=2) ?hd (cs:=#[.int .i64 0,.int .i64 0]) (t:=26) ?hr ?_;(case hd=>rfl);(case hg=>rfl);(case hr=>first|(go_simp;done)|(go_simp;rfl));intro gb234 hg w3 hbox hb;have BK234:=aM (hbox);have GW234:=aM (zg hg (zs HB.out));have GE234:=aM (zg hg (zs HB.out));replace HB:=aM (below_step (zs HB.out) hb);have NB233_234:=aM (zl hg (zk BK233.out));have NB234_233:=aM (zm hg (zk BK233.out));replace BK233:=aM (blk_below (g:=gb233) (o:=.cells #[.int .i64 a0_0,.int .i64 a0_1] 83 (0,0)) (zk BK233.out) hb);clear hb hbox hg)|((with_reducible refine gate_dst (N:=3) rfl ?_);refine box_event ?hg (N:=3) ?hd (cs:=#[.int .i64 0,.int .i64 0]) (t:=26) ?hr ?_;(case hd=>rfl);(case hg=>rfl);(case hr=>first|(go_simp;done)|(go_simp;rfl));intro gb235 hg w4 hbox hb;have BK235:=aM (hbox);have GW235:=aM (zg hg (zs HB.out));have GE235:=aM (zg hg (zs HB.out));replace HB:=aM (below_step (zs HB.out) hb);have NB233_235:=aM (zl hg (zk BK233.out));have NB235_233:=aM (zm hg (zk BK233.out));replace BK233:=aM (blk_below (g:=gb233) (o:=.cells #[.int .i64 a0_0,.int .i64 a0_1] 83 (0,0)) (zk BK233.out) hb);have NB234_235:=aM (zl hg (zk BK234.out));have NB235_234:=aM (zm hg (zk BK234.out));replace BK234:=aM (blk_below (g:=gb234) (o:=.cells #[.int .i64 0,.int .i64 0] 26 (0,0)) (zk BK234.out) hb);clear hb hbox hg;have hnb5:=NB233_234.out;have hnc5:=NB234_233.out;have hnb6:=NB233_235.out;have hnc6:=NB235_233.out;have hcz7_0:w4.cell? ⟨gb233,0,none⟩=some (.int .i64 a0_0):=(blk_cell BK233.out 0).trans rfl;have hcz7_1:w4.cell? ⟨gb233,1,none⟩=some (.int .i64 a0_1):=(blk_cell BK233.out 1).trans rfl;have hfz7_0:=blk_frozen BK233.out 0;have hfz7_1:=blk_frozen BK233.out 1;have hnb8:=NB235_234.out;have hnc8:=NB234_235.out;have hcz9_0:w4.cell? ⟨gb235,0,none⟩=some (.int .i64 0):=(blk_cell BK235.out 0).trans rfl;have hcz9_1:w4.cell? ⟨gb235,1,none⟩=some (.int .i64 0):=(blk_cell BK235.out 1).trans rfl;have hfz9_0:=blk_frozen BK235.out 0;have hfz9_1:=blk_frozen BK235.out 1;have hcz10_0:w4.cell? ⟨gb234,0,none⟩=some (.int .i64 0):=(blk_cell BK234.out 0).trans rfl;have hcz10_1:w4.cell? ⟨gb234,1,none⟩=some (.int .i64 0):=(blk_cell BK234.out 1).trans rfl;have hfz10_0:=blk_frozen BK234.out 0;have hfz10_1:=blk_frozen BK234.out 1));refine bodyPost_ret (results_cell_row rfl _ _ gb234 26 #[.int .i64 a0_0,.int .i64 a0_1] (0,0) _ rfl (by (with_reducible repeat (first|refine blk_drewN ?_ _|refine blk_drew ?_|refine blk_alloc ?_ _));refine blk_put (cs:=#[.int .i64 a0_0,.int .i64 0]) ?_ 1 _ rfl;(with_reducible repeat (first|refine blk_drewN ?_ _|refine blk_drew ?_|refine blk_alloc ?_ _));refine blk_put (cs:=#[.int .i64 0,.int .i64 0]) ?_ 0 _ rfl;(with_reducible repeat (first|refine blk_drewN ?_ _|refine blk_drew ?_|refine blk_alloc ?_ _));refine blk_far ?_ NB234_235.out _;(with_reducible repeat (first|refine blk_drewN ?_ _|refine blk_drew ?_|refine blk_alloc ?_ _));refine blk_far ?_ NB234_235.out _;(with_reducible repeat (first|refine blk_drewN ?_ _|refine blk_drew ?_|refine blk_alloc ?_ _));exact BK234.out) Try.underlying26 rfl (by kernel_rfl)) rfl ?_;exact ⟨by first|rfl|(simp [errW_none,errW_some]<;>rfl)|(simp [*,errW_none,errW_some]<;>rfl),zs HB.out⟩
end Go.Proofs.Ytojkepidkmkmpaa.PFnExactFitsSystem
end
section
namespace Go.Proofs.Ytojkepidkmkmpaa.PFnExactFitsSystem
open Go.Proofs.YtojkepidkmkmpaaW.PrintWords.Aside0 renaming mk → aM
open List renaming setIfInBounds_toArray → qa, set_cons_zero → qz, set_cons_succ → qs
open Bool renaming true → tt, false → ff
open Option renaming bind_eq_some_iff → bE

open Go.RowKit Go.Proofs.YtojkepidkmkmpaaW.PrintWords Go.Proofs.YtojkepidkmkmpaaW.PrintLast Go.Proofs.YtojkepidkmkmpaaW.PrintMore
attribute [local go_sem] max2_int min2_int max_two min_two max_three min_three max_four min_four
set_option linter.unusedVariables false
set_option linter.unusedSimpArgs false
def laws_toRatioS.l0 : Nat → List (S83) → List (S26) → Int → Option ((List (S26)))
 | 0, _, _, _ => none
 | k + 1, x0, x3, x4 => if x4 < (x0.length : Int) then (if 0 ≤ x4 then ((laws_toRatio.f ((rd_T83 x0 x4).f0) ((rd_T83 x0 x4).f1)).bind fun bt240 => (if x4 < (x3.length : Int) then (laws_toRatioS.l0 k x0 (x3.set (x4 : Int).toNat (⟨bt240.1, bt240.2⟩ : S26)) (wrap64 (x4 + 1))) else (none))) else (none)) else (some x3)
def laws_toRatioS.f (k : Nat) (l0 : List (S83)) : Option ((List (S26))) := if 0 ≤ (l0.length : Int) then (if ((l0.length : Int) : Int).toNat ≤ 17592186044416 then (laws_toRatioS.l0 k l0 (List.replicate ((l0.length : Int) : Int).toNat z26) 0) else (none)) else (none)
set_option maxHeartbeats 8000000 in
set_option maxRecDepth 100000 in
theorem laws_toRatioS.calls (k : Nat) (A0 : Option Addr) (c0 : Nat) (l0 : List (S83)) (r : List (S26)) (w : World) (hr0 : Kd.C k83 w A0 l0.length l0) (hc0 : l0.length ≤ c0) (h : laws_toRatioS.f k l0 = some r) :
 Calls Try.prog 47 #[.slice A0 l0.length c0] w fun e w' => ∃ v0_ : Value, e = .returned (v0_) ∧ Kd.R k26 26 w' w.heap.size (fun _ => True) v0_ r ∧ Below w.heap.size w w' := by
 have hu83:=Try.underlying83;have hu26:=Try.underlying26;have HR0:=aM hr0;have HC0:=aM hc0;clear hr0 hc0;have HB:=aM (Below.refl w.heap.size w);have H:(if 0≤(l0.length:Int) then (if ((l0.length:Int):Int).toNat≤17592186044416 then (laws_toRatioS.l0 k l0 (List.replicate ((l0.length:Int):Int).toNat z26) 0) else (none)) else (none))=some r:=h;clear h;by_cases c2:0≤(l0.length:Int)
 ·rw [if_pos c2] at H;have c2b0:=eq_true c2;have c2b1:decide (0≤(l0.length:Int))=true:=decide_eq_true c2;clear c2;by_cases c3:((l0.length:Int):Int).toNat≤17592186044416
  ·rw [if_pos c3] at H;have c3b0:=eq_true c3;have c3b1:decide (((l0.length:Int):Int).toNat≤17592186044416)=true:=decide_eq_true c3;clear c3;obtain ⟨y236,hy236⟩:∃y_:List (S26),y_=(List.replicate ((l0.length:Int):Int).toNat z26):=⟨_,rfl⟩;replace H:(laws_toRatioS.l0 k l0 y236 0)=some r:=(by first|(rw [hy236];with_reducible exact H)|(have H2_:=(Option.bind_some _ _).symm.trans H;rw [hy236];with_reducible exact H2_)|(have H2_:=(Option.bind_some _ _).symm.trans H;with_reducible exact H2_)|with_reducible exact H|(rw [hy236];exact H)|exact H);have Ny236:=aM hy236;clear hy236;have H':=aM H;clear H;go_enter Try.func47,Try.ntmps47;go_wp2_with (first|((with_reducible refine gate_dst (N:=7) rfl ?_);refine Kd.R_make k26 _ 26 rfl (N:=7) rfl 39 _ _ rfl (l0.length:Int) rfl rfl Try.underlying39 (.agg #[(.int .i64 0),(.int .i64 0)]) 16 info26 rfl (by decide) (by omega) z26 (ok:=fun _=>True) (okp:=fun _=>True) (k26_mkM _ _ _ z26) (fun _ hk=>hk) trivial (zd) (Nat.le_trans (Nat.mul_le_mul_right _ (zd:(l0.length:Int).toNat≤17592186044416)) (by omega)) (Below.refl _ _) (Nat.le_refl _) ?_;intro v237 w4 ho5 hb hg_ hnew_;clear hg_ hnew_;(first|rw [← Ny236.out] at ho5|(simp only [Int.reduceToNat] at ho5;rw [← Ny236.out] at ho5));have HO238:=aM (Kd.R_lower ho5 (below_size (zb HB.out)));replace HB:=aM (below_step (zb HB.out) hb);clear hb ho5));go_loopg [4] k (fun kq v4 w'=>∃(x3_1:List (S26)) (x4_1:Int),v4 = .int .i64 x4_1∧Aside0 (laws_toRatioS.l0 kq l0 x3_1 x4_1=some r)∧Aside0 (kq≤k)∧Aside0 (Kd.R k26 26 w' w.heap.size (fun _=>True) v237 x3_1)∧Aside0 (Below w.heap.size w w'));(case atStart=>exact ⟨(y236),(0),zt,H',⟨Nat.le_refl _⟩,⟨zr HO238.out⟩,⟨zb HB.out⟩⟩)
   case round=>
    clear H';(try clear c2);(try clear c2b0);(try clear c2b1);(try clear p2);(try clear c3);(try clear c3b0);(try clear c3b1);(try clear c4);obtain ⟨x3_1,x4_1,rfl,HA,HK1,HO_3,HB⟩:=hrel;cases gk with
    | zero=>exact absurd HA.out (by simp [laws_toRatioS.l0])
    | succ k1=>
     have H:=HA.out;clear HA;simp only [laws_toRatioS.l0] at H;by_cases c6:x4_1<(l0.length:Int)
     ·rw [if_pos c6] at H;have c6b0:decide (x4_1<(l0.length:Int))=true:=decide_eq_true c6;clear c6;obtain ⟨c7b0,H⟩:=iN H;obtain ⟨⟨t240,t241⟩,A8,H⟩:=bz H;dsimp only at H;obtain ⟨c9b0,H⟩:=iN H;obtain ⟨y242,hy242⟩:∃y_:List (S26),y_=(x3_1.set (x4_1:Int).toNat (⟨t240,t241⟩:S26)):=⟨_,rfl⟩;replace H:(laws_toRatioS.l0 k1 l0 y242 (wrap64 (x4_1+1)))=some r:=(by first|(rw [hy242];with_reducible exact H)|(have H2_:=(Option.bind_some _ _).symm.trans H;rw [hy242];with_reducible exact H2_)|(have H2_:=(Option.bind_some _ _).symm.trans H;with_reducible exact H2_)|with_reducible exact H|(rw [hy242];exact H)|exact H);have Ny242:=aM hy242;clear hy242;have H':=aM H;clear H;have p239:0≤(x4_1:Int):=zd;have q239:x4_1<(l0.length:Int):=zd;obtain ⟨ad239,e239,hx239_0,hx239_1⟩:=at_T83 HR0.out x4_1 p239 q239;cases e239;replace hx239_0:=(HB.out.cell (World.block_lt_of_cell? w _ hx239_0)).trans hx239_0;replace hx239_1:=(HB.out.cell (World.block_lt_of_cell? w _ hx239_1)).trans hx239_1;replace p239:=eq_true p239;replace q239:=eq_true q239;go_wp2_with (first|((with_reducible refine gate_callee (f:=86) rfl ?_);refine gm (some 20) Try.func86 #[.agg #[.int .i64 ((rd_T83 l0 x4_1).f0),.int .i64 ((rd_T83 l0 x4_1).f1)]] ?_;(with_reducible refine (laws_toRatio.calls ((rd_T83 l0 x4_1).f0) ((rd_T83 l0 x4_1).f1) t240 t241 _ A8.out).mono ?_);rintro e w11 ⟨rfl,hb⟩;refine ⟨_,rfl,?_⟩;replace HO_3:=aM (Kd.R_below (zr HO_3.out) hb);replace HB:=aM (below_step (zb HB.out) hb);(try clear hb);(try clear hb2);(try clear hk);(try clear hi);have p10:0≤(x4_1:Int):=zd;have q10:(x4_1:Int)<((x3_1.length:Int):Int):=zd;obtain ⟨go10,co10,eo10,gb10,gl10,cl10,HG10⟩:=Kd.R_form HO_3.out (by omega);(first|cases eo10|(injection eo10 with ea_ en_ ec_;(first|subst ea_|(injection ea_ with ea_;subst ea_));subst ec_;clear en_));have GB10:=aM gb10;have GG10:=aM HG10;clear gb10 gl10 HG10;obtain ⟨ce10,hcl10,hM10,hcc10,hfr10⟩:=Kd.R_elem HO_3.out z26 (x4_1:Int) p10 q10;obtain rfl:=k26_openM hM10;have hx10_0:w11.cell? ⟨go10,(x4_1:Int).toNat*2,none⟩=some (.int .i64 ((rd_T26 x3_1 x4_1).f0)):=hcc10 0 _ rfl;have hx10_1:w11.cell? ⟨go10,(x4_1:Int).toNat*2+1,none⟩=some (.int .i64 ((rd_T26 x3_1 x4_1).f1)):=hcc10 1 _ rfl;have hf10_0:w11.frozen? ⟨go10,(x4_1:Int).toNat*2,none⟩=false:=hfr10 0;have hf10_1:w11.frozen? ⟨go10,(x4_1:Int).toNat*2+1,none⟩=false:=hfr10 1;clear hcl10 hcc10 hfr10;(try clear hM10);replace p10:=eq_true p10;replace q10:=eq_true q10;have HX12:=aM (show Kd.R k26 26 w11 w.heap.size (fun _=>True) (.slice (some ⟨go10,0,none⟩) x3_1.length co10) x3_1 from (zr HO_3.out));obtain ⟨ce12,hcl12,hM12,hcc12,hfr12⟩:=Kd.R_elem HX12.out z26 (x4_1:Int) (zd) (by have h_:(x4_1:Int)<((x3_1.length:Int):Int):=zd;first|exact h_|(have e_:=(Kd.R_reads' HO_3.out).1;omega)|simpa using h_);obtain rfl:=k26_openM hM12;have HP12:=Kd.R_seg HX12.out (x4_1:Int) (zd) (by have h_:(x4_1:Int)<((x3_1.length:Int):Int):=zd;first|exact h_|(have e_:=(Kd.R_reads' HO_3.out).1;omega)|simpa using h_) (seg:=[.int .i64 t240,.int .i64 t241]) (j:=0) hcl12 hcc12 (show 2≤2 from by decide) (x':=(⟨t240,t241⟩:S26)) (k26_mkM _ _ _ (⟨t240,t241⟩:S26)) (fun _ hk=>hk);have hx12_0:=hcc12 0 _ rfl;(try simp only [show (k26).sz=2 from rfl,Nat.mul_one,Nat.add_zero] at hx12_0);have hf12_0:=hfr12 0;(try simp only [show (k26).sz=2 from rfl,Nat.mul_one,Nat.add_zero] at hf12_0);have hx12_1:=hcc12 1 _ rfl;(try simp only [show (k26).sz=2 from rfl,Nat.mul_one,Nat.add_zero] at hx12_1);have hf12_1:=hfr12 1;(try simp only [show (k26).sz=2 from rfl,Nat.mul_one,Nat.add_zero] at hf12_1);clear hcl12 hcc12 hfr12;(try clear hM12))|((with_reducible refine gate_store (t:=26) (p:=21) rfl ?_);refine store_event (t:=26) (p:=21) (v:=?vo_w13) (w1:=((w11.setCell ⟨go10,(x4_1:Int).toNat*2,none⟩ (.int .i64 t240)).setCell ⟨go10,(x4_1:Int).toNat*2+1,none⟩ (.int .i64 t241))) ?hg ?ho ?hn ?hr ?_;(case ho=>rfl);(case hg=>rfl);(case hn=>rfl);(case hr=>first|(go_simp;done)|(go_simp;rfl));intro w13 hw;have hg:w11.grownBy w13 (some go10):=(by rw [hw];exact HP12.2);have hp_:Kd.R k26 26 w13 w.heap.size (fun _=>True) (.slice (some ⟨go10,0,none⟩) x3_1.length co10) y242:=(by rw [hw,Ny242.out];exact HP12.1);clear HP12;replace HO_3:=aM (hp_);replace HB:=aM ((by rw [hw];exact below_set (below_set (HB.out) GB10.out) GB10.out:Below w.heap.size w w13));clear hg hw hp_));go_roundg k1;(case measure=>have:=HK1.out;omega);(case rel=>exact ⟨(y242),(wrap64 (x4_1+1)),zt,H',⟨by have:=HK1.out;omega⟩,⟨zr HO_3.out⟩,⟨zb HB.out⟩⟩)
     ·rw [if_neg c6] at H;have c6b0:decide (x4_1<(l0.length:Int))=false:=decide_eq_false c6;clear c6;obtain rfl:=Option.some.inj H;go_wp2;go_ret;exact ⟨_,by first|rfl|(simp [errW_none,errW_some]<;>rfl)|(simp [*,errW_none,errW_some]<;>rfl),zr HO_3.out,zb HB.out⟩
  ·rw [if_neg c3] at H;exact absurd H (by simp)
 ·rw [if_neg c2] at H;exact absurd H (by simp)
def laws_FnExactFitsSystem.f (k : Nat) (l0 : List (List Int)) (l1 : List Int) (l2 : List (S83)) : Option (Bool) := if (l1.length : Int) > 1048576 then (some true) else ((laws_szIntSS.f k l0 1048576).bind fun t243 => (if t243 < 0 then (some true) else ((laws_szRatioS.f l2 t243).bind fun t244 => (if t244 < 0 then (some true) else ((laws_toIntSS.f k l0).bind fun t245 => ((laws_toIntS.f k l1).bind fun t248 => ((laws_toRatioS.f k l2).bind fun t251 => ((spec_FitsSystem.f k t245 t248 t251).bind fun t254 => ((laws_toIntSS.f k l0).bind fun t255 => ((laws_toIntS.f k l1).bind fun t258 => ((laws_toRatioS.f k l2).bind fun t261 => ((impl_FitsSystem.f k t255 t258 t261).bind fun t264 => (if (t264 != t254) = true then (some false) else ((laws_toIntSS.f k l0).bind fun t265 => ((laws_eqIntSS.f k t255 t265).bind fun t268 => (if t268 = true then ((laws_toIntS.f k l1).bind fun t269 => ((laws_eqIntS.f k t258 t269).bind fun t272 => (if t272 = true then ((laws_toRatioS.f k l2).bind fun t273 => ((laws_eqRatioS.f k t261 t273).bind fun t276 => (if t276 = true then (some true) else (some false)))) else (some false)))) else (some false)))))))))))))))))
set_option maxHeartbeats 8000000 in
set_option maxRecDepth 100000 in
theorem laws_FnExactFitsSystem.calls (k : Nat) (A0 : Option Addr) (c0 : Nat) (l0 : List (List Int)) (A1 : Option Addr) (c1 : Nat) (l1 : List Int) (A2 : Option Addr) (c2 : Nat) (l2 : List (S83)) (r : Bool) (w : World) (hr0 : Kd.C (Kd.slice 3 (Kd.int .i64)) w A0 l0.length l0) (hc0 : l0.length ≤ c0) (hr1 : Kd.C (Kd.int .i64) w A1 l1.length l1) (hc1 : l1.length ≤ c1) (hr2 : Kd.C k83 w A2 l2.length l2) (hc2 : l2.length ≤ c2) (h : laws_FnExactFitsSystem.f k l0 l1 l2 = some r) :
 Calls Try.prog 8 #[.slice A0 l0.length c0, .slice A1 l1.length c1, .slice A2 l2.length c2] w fun e w' => e = .returned (.bool r) ∧ Below w.heap.size w w' := by
 have HR0:=aM hr0;have HC0:=aM hc0;clear hr0 hc0;have HR1:=aM hr1;have HC1:=aM hc1;clear hr1 hc1;have HR2:=aM hr2;have HC2:=aM hc2;clear hr2 hc2;have HB:=aM (Below.refl w.heap.size w);have H:(if (l1.length:Int) > 1048576 then (some true) else ((laws_szIntSS.f k l0 1048576).bind fun t243=>(if t243<0 then (some true) else ((laws_szRatioS.f l2 t243).bind fun t244=>(if t244<0 then (some true) else ((laws_toIntSS.f k l0).bind fun t245=>((laws_toIntS.f k l1).bind fun t248=>((laws_toRatioS.f k l2).bind fun t251=>((spec_FitsSystem.f k t245 t248 t251).bind fun t254=>((laws_toIntSS.f k l0).bind fun t255=>((laws_toIntS.f k l1).bind fun t258=>((laws_toRatioS.f k l2).bind fun t261=>((impl_FitsSystem.f k t255 t258 t261).bind fun t264=>(if (t264 != t254)=true then (some false) else ((laws_toIntSS.f k l0).bind fun t265=>((laws_eqIntSS.f k t255 t265).bind fun t268=>(if t268=true then ((laws_toIntS.f k l1).bind fun t269=>((laws_eqIntS.f k t258 t269).bind fun t272=>(if t272=true then ((laws_toRatioS.f k l2).bind fun t273=>((laws_eqRatioS.f k t261 t273).bind fun t276=>(if t276=true then (some true) else (some false)))) else (some false)))) else (some false))))))))))))))))))=some r:=h;clear h;by_cases c4:(l1.length:Int) > 1048576
 ·rw [if_pos c4] at H;have c4b0:decide (1048576<(l1.length:Int))=true:=decide_eq_true c4;have c4b1:decide (1048576<l1.length)=true:=decide_eq_true (by omega);clear c4;obtain rfl:=Option.some.inj H;go_enter Try.func8,Try.ntmps8;go_wp2;go_ret;exact ⟨by first|rfl|(simp [errW_none,errW_some]<;>rfl)|(simp [*,errW_none,errW_some]<;>rfl),zb HB.out⟩
 ·rw [if_neg c4] at H;have c4b0:decide (1048576<(l1.length:Int))=false:=decide_eq_false c4;have c4b1:decide (1048576<l1.length)=false:=decide_eq_false (by omega);clear c4;obtain ⟨t243,A5,H⟩:=bz H;by_cases c6:t243<0
  ·rw [if_pos c6] at H;have c6b0:decide (t243<0)=true:=decide_eq_true c6;clear c6;obtain rfl:=Option.some.inj H;go_enter Try.func8,Try.ntmps8;go_wp2_with (first|((with_reducible refine gate_callee (f:=15) rfl ?_);refine gm (some 18) Try.func15 #[.slice A0 l0.length c0,.int .i64 1048576] ?_;(with_reducible refine (laws_szIntSS.calls k _ _ l0 1048576 t243 _ ?side1 ?side2 A5.out).mono ?_);(case side1=>exact zc HR0.out);(case side2=>exact HC0.out);rintro e w' ⟨rfl,⟨nd,rfl⟩⟩;refine ⟨_,rfl,?_⟩));go_ret;exact ⟨by first|rfl|(simp [errW_none,errW_some]<;>rfl)|(simp [*,errW_none,errW_some]<;>rfl),zb HB.out⟩
  ·rw [if_neg c6] at H;have c6b0:decide (t243<0)=false:=decide_eq_false c6;clear c6;obtain ⟨t244,A7,H⟩:=bz H;by_cases c8:t244<0
   ·rw [if_pos c8] at H;have c8b0:decide (t244<0)=true:=decide_eq_true c8;clear c8;obtain rfl:=Option.some.inj H;go_enter Try.func8,Try.ntmps8;go_wp2_with (first|((with_reducible refine gate_callee (f:=15) rfl ?_);refine gm (some 18) Try.func15 #[.slice A0 l0.length c0,.int .i64 1048576] ?_;(with_reducible refine (laws_szIntSS.calls k _ _ l0 1048576 t243 _ ?side1 ?side2 A5.out).mono ?_);(case side1=>exact zc HR0.out);(case side2=>exact HC0.out);rintro e w' ⟨rfl,⟨nd,rfl⟩⟩;refine ⟨_,rfl,?_⟩)|((with_reducible refine gate_callee (f:=45) rfl ?_);refine gm (some 23) Try.func45 #[.slice A2 l2.length c2,.int .i64 t243] ?_;(with_reducible refine (laws_szRatioS.calls _ _ l2 t243 t244 _ ?side1 ?side2 A7.out).mono ?_);(case side1=>exact zc HR2.out);(case side2=>exact HC2.out);rintro e w' ⟨rfl,⟨nd,rfl⟩⟩;refine ⟨_,rfl,?_⟩));go_ret;exact ⟨by first|rfl|(simp [errW_none,errW_some]<;>rfl)|(simp [*,errW_none,errW_some]<;>rfl),zb HB.out⟩
   ·rw [if_neg c8] at H;have c8b0:decide (t244<0)=false:=decide_eq_false c8;clear c8;obtain ⟨t245,A9,H⟩:=bz H;obtain ⟨t248,A10,H⟩:=bz H;obtain ⟨t251,A11,H⟩:=bz H;obtain ⟨t254,A12,H⟩:=bz H;obtain ⟨t255,A13,H⟩:=bz H;obtain ⟨t258,A14,H⟩:=bz H;obtain ⟨t261,A15,H⟩:=bz H;obtain ⟨t264,A16,H⟩:=bz H;by_cases c17:(t264 != t254)=true
    ·rw [if_pos c17] at H;have c17b0:(t264 != t254)=true:=c17;(try (have c17b1:decide (t264=t254)=false:=by simpa using c17));(try (have c17b2:(t264 == t254)=false:=by simpa using c17));(try (have c17b3:¬(t264=t254):=by simpa using c17));clear c17;obtain rfl:=Option.some.inj H;go_enter Try.func8,Try.ntmps8;go_wp2_with (first|((with_reducible refine gate_callee (f:=15) rfl ?_);refine gm (some 18) Try.func15 #[.slice A0 l0.length c0,.int .i64 1048576] ?_;(with_reducible refine (laws_szIntSS.calls k _ _ l0 1048576 t243 _ ?side1 ?side2 A5.out).mono ?_);(case side1=>exact zc HR0.out);(case side2=>exact HC0.out);rintro e w' ⟨rfl,⟨nd,rfl⟩⟩;refine ⟨_,rfl,?_⟩)|((with_reducible refine gate_callee (f:=45) rfl ?_);refine gm (some 23) Try.func45 #[.slice A2 l2.length c2,.int .i64 t243] ?_;(with_reducible refine (laws_szRatioS.calls _ _ l2 t243 t244 _ ?side1 ?side2 A7.out).mono ?_);(case side1=>exact zc HR2.out);(case side2=>exact HC2.out);rintro e w' ⟨rfl,⟨nd,rfl⟩⟩;refine ⟨_,rfl,?_⟩)|((with_reducible refine gate_callee (f:=17) rfl ?_);refine gm (some 27) Try.func17 #[.slice A0 l0.length c0] ?_;(with_reducible refine (laws_toIntSS.calls k _ _ l0 t245 _ ?side1 ?side2 A9.out).mono ?_);(case side1=>exact zc HR0.out);(case side2=>exact HC0.out);rintro e w18 ⟨v246,rfl,ho0,hb⟩;refine ⟨_,rfl,?_⟩;have HO247:=aM (Kd.S_lower ho0 (below_size (zb HB.out)));replace HB:=aM (below_step (zb HB.out) hb);(try clear hb);(try clear hb2);(try clear hk);(try clear hi);(try clear ho0))|((with_reducible refine gate_callee (f:=18) rfl ?_);refine gm (some 29) Try.func18 #[.slice A1 l1.length c1] ?_;(with_reducible refine (laws_toIntS.calls k _ _ l1 t248 _ ?side1 ?side2 A10.out).mono ?_);(case side1=>exact zc (Kd.C_below HR1.out HB.out));(case side2=>exact HC1.out);rintro e w19 ⟨v249,rfl,ho0,hb⟩;refine ⟨_,rfl,?_⟩;replace HO247:=aM (Kd.S_elder' (by (with_reducible repeat (first|apply Kd.S_alloc|apply Kd.S_drewN|apply Kd.S_drew));exact HO247.out) (Kd.R_base ho0) hb);have HO250:=aM (Kd.R_lower ho0 (below_size (zb HB.out)));replace HB:=aM (below_step (zb HB.out) hb);(try clear hb);(try clear hb2);(try clear hk);(try clear hi);(try clear ho0))|((with_reducible refine gate_callee (f:=47) rfl ?_);refine gm (some 31) Try.func47 #[.slice A2 l2.length c2] ?_;(with_reducible refine (laws_toRatioS.calls k _ _ l2 t251 _ ?side1 ?side2 A11.out).mono ?_);(case side1=>exact zc (Kd.C_below HR2.out HB.out));(case side2=>exact HC2.out);rintro e w20 ⟨v252,rfl,ho0,hb⟩;refine ⟨_,rfl,?_⟩;replace HO247:=aM (Kd.S_below (by (with_reducible repeat (first|apply Kd.S_alloc|apply Kd.S_drewN|apply Kd.S_drew));exact HO247.out) hb);replace HO250:=aM (Kd.R_below (zr HO250.out) hb);have HO253:=aM (Kd.R_lower ho0 (below_size (zb HB.out)));replace HB:=aM (below_step (zb HB.out) hb);(try clear hb);(try clear hb2);(try clear hk);(try clear hi);(try clear ho0);obtain ⟨Ao21,co21,eo21⟩:=Kd.S_slice HO247.out;subst eo21;obtain ⟨Ao22,co22,eo22⟩:=Kd.R_slice HO250.out;subst eo22;obtain ⟨Ao23,co23,eo23⟩:=Kd.R_slice HO253.out;subst eo23)|((with_reducible refine gate_callee (f:=46) rfl ?_);refine gm (some 32) Try.func46 #[.slice Ao21 t245.length co21,.slice Ao22 t248.length co22,.slice Ao23 t251.length co23] ?_;(with_reducible refine (spec_FitsSystem.calls k _ _ t245 _ _ t248 _ _ t251 t254 _ ?side1 ?side2 ?side3 ?side4 ?side5 ?side6 A12.out).mono ?_);(case side1=>exact zc (Kd.S_reads' HO247.out).2.2);(case side2=>exact (Kd.S_reads' HO247.out).2.1);(case side3=>exact zc (Kd.R_reads' HO250.out).2.2);(case side4=>exact (Kd.R_reads' HO250.out).2.1);(case side5=>exact zc (Kd.R_reads' HO253.out).2.2);(case side6=>exact (Kd.R_reads' HO253.out).2.1);rintro e w24 ⟨rfl,hb⟩;refine ⟨_,rfl,?_⟩;replace HO247:=aM (Kd.S_below (by (with_reducible repeat (first|apply Kd.S_alloc|apply Kd.S_drewN|apply Kd.S_drew));exact HO247.out) hb);replace HO250:=aM (Kd.R_below (zr HO250.out) hb);replace HO253:=aM (Kd.R_below (zr HO253.out) hb);replace HB:=aM (below_step (zb HB.out) hb);(try clear hb);(try clear hb2);(try clear hk);(try clear hi))|((with_reducible refine gate_callee (f:=17) rfl ?_);refine gm (some 34) Try.func17 #[.slice A0 l0.length c0] ?_;(with_reducible refine (laws_toIntSS.calls k _ _ l0 t255 _ ?side1 ?side2 A13.out).mono ?_);(case side1=>exact zc (Kd.C_below HR0.out HB.out));(case side2=>exact HC0.out);rintro e w25 ⟨v256,rfl,ho0,hb⟩;refine ⟨_,rfl,?_⟩;replace HO253:=aM (Kd.R_below (zr HO253.out) hb);have HO257:=aM (Kd.S_lower (Kd.S_new' (Kd.S_new' ho0 (Kd.S_lt (by (with_reducible repeat (first|apply Kd.S_alloc|apply Kd.S_drewN|apply Kd.S_drew));exact HO247.out))) (Kd.R_lt (zr HO250.out))) (below_size (zb HB.out)));replace HO247:=aM (Kd.S_elder' (by (with_reducible repeat (first|apply Kd.S_alloc|apply Kd.S_drewN|apply Kd.S_drew));exact HO247.out) (Kd.S_base ho0) hb);replace HO250:=aM (Kd.R_below (zr HO250.out) hb);replace HB:=aM (below_step (zb HB.out) hb);(try clear hb);(try clear hb2);(try clear hk);(try clear hi);(try clear ho0))|((with_reducible refine gate_callee (f:=18) rfl ?_);refine gm (some 36) Try.func18 #[.slice A1 l1.length c1] ?_;(with_reducible refine (laws_toIntS.calls k _ _ l1 t258 _ ?side1 ?side2 A14.out).mono ?_);(case side1=>exact zc (Kd.C_below HR1.out HB.out));(case side2=>exact HC1.out);rintro e w26 ⟨v259,rfl,ho0,hb⟩;refine ⟨_,rfl,?_⟩;replace HO247:=aM (Kd.S_elder' (by (with_reducible repeat (first|apply Kd.S_alloc|apply Kd.S_drewN|apply Kd.S_drew));exact HO247.out) (Kd.R_base ho0) hb);replace HO253:=aM (Kd.R_below (zr HO253.out) hb);replace HO257:=aM (Kd.S_elder' (by (with_reducible repeat (first|apply Kd.S_alloc|apply Kd.S_drewN|apply Kd.S_drew));exact HO257.out) (Kd.R_base ho0) hb);have HO260:=aM (Kd.R_lower (Kd.R_new' ho0 (Kd.R_lt (zr HO250.out))) (below_size (zb HB.out)));replace HO250:=aM (Kd.R_elder' (zr HO250.out) (Kd.R_base ho0) hb);replace HB:=aM (below_step (zb HB.out) hb);(try clear hb);(try clear hb2);(try clear hk);(try clear hi);(try clear ho0))|((with_reducible refine gate_callee (f:=47) rfl ?_);refine gm (some 38) Try.func47 #[.slice A2 l2.length c2] ?_;(with_reducible refine (laws_toRatioS.calls k _ _ l2 t261 _ ?side1 ?side2 A15.out).mono ?_);(case side1=>exact zc (Kd.C_below HR2.out HB.out));(case side2=>exact HC2.out);rintro e w27 ⟨v262,rfl,ho0,hb⟩;refine ⟨_,rfl,?_⟩;replace HO247:=aM (Kd.S_below (by (with_reducible repeat (first|apply Kd.S_alloc|apply Kd.S_drewN|apply Kd.S_drew));exact HO247.out) hb);replace HO250:=aM (Kd.R_below (zr HO250.out) hb);replace HO257:=aM (Kd.S_below (by (with_reducible repeat (first|apply Kd.S_alloc|apply Kd.S_drewN|apply Kd.S_drew));exact HO257.out) hb);replace HO260:=aM (Kd.R_below (zr HO260.out) hb);have HO263:=aM (Kd.R_lower (Kd.R_new' ho0 (Kd.R_lt (zr HO253.out))) (below_size (zb HB.out)));replace HO253:=aM (Kd.R_elder' (zr HO253.out) (Kd.R_base ho0) hb);replace HB:=aM (below_step (zb HB.out) hb);(try clear hb);(try clear hb2);(try clear hk);(try clear hi);(try clear ho0);obtain ⟨Ao28,co28,eo28⟩:=Kd.S_slice HO257.out;subst eo28;obtain ⟨Ao29,co29,eo29⟩:=Kd.R_slice HO260.out;subst eo29;obtain ⟨Ao30,co30,eo30⟩:=Kd.R_slice HO263.out;subst eo30)|((with_reducible refine gate_callee (f:=28) rfl ?_);refine gm (some 42) Try.func28 #[.slice Ao28 t255.length co28,.slice Ao29 t258.length co29,.slice Ao30 t261.length co30] ?_;(with_reducible refine (impl_FitsSystem.calls k _ _ t255 _ _ t258 _ _ t261 t264 _ ?side1 ?side2 ?side3 ?side4 ?side5 ?side6 A16.out).mono ?_);(case side1=>exact zc (Kd.S_reads' HO257.out).2.2);(case side2=>exact (Kd.S_reads' HO257.out).2.1);(case side3=>exact zc (Kd.R_reads' HO260.out).2.2);(case side4=>exact (Kd.R_reads' HO260.out).2.1);(case side5=>exact zc (Kd.R_reads' HO263.out).2.2);(case side6=>exact (Kd.R_reads' HO263.out).2.1);rintro e w31 ⟨rfl,hb⟩;refine ⟨_,rfl,?_⟩;replace HO247:=aM (Kd.S_below (by (with_reducible repeat (first|apply Kd.S_alloc|apply Kd.S_drewN|apply Kd.S_drew));exact HO247.out) hb);replace HO250:=aM (Kd.R_below (zr HO250.out) hb);replace HO253:=aM (Kd.R_below (zr HO253.out) hb);replace HO257:=aM (Kd.S_below (by (with_reducible repeat (first|apply Kd.S_alloc|apply Kd.S_drewN|apply Kd.S_drew));exact HO257.out) hb);replace HO260:=aM (Kd.R_below (zr HO260.out) hb);replace HO263:=aM (Kd.R_below (zr HO263.out) hb);replace HB:=aM (below_step (zb HB.out) hb);(try clear hb);(try clear hb2);(try clear hk);(try clear hi)));go_ret;exact ⟨by first|rfl|(simp [errW_none,errW_some]<;>rfl)|(simp [*,errW_none,errW_some]<;>rfl),zb HB.out⟩
    ·rw [if_neg c17] at H;have c17b0:(t264 != t254)=false:=(by simpa using c17);(try (have c17b1:decide (t264=t254)=true:=by simpa using c17));(try (have c17b2:(t264 == t254)=true:=by simpa using c17));clear c17;obtain ⟨t265,A32,H⟩:=bz H;obtain ⟨t268,A33,H⟩:=bz H;by_cases c34:t268=true
     ·subst c34;replace H:=ifT H;obtain ⟨t269,A35,H⟩:=bz H;obtain ⟨t272,A36,H⟩:=bz H;by_cases c37:t272=true
      ·subst c37;replace H:=ifT H;obtain ⟨t273,A38,H⟩:=bz H;obtain ⟨t276,A39,H⟩:=bz H;by_cases c40:t276=true
       ·subst c40;replace H:=ifT H;obtain rfl:=Option.some.inj H;go_enter Try.func8,Try.ntmps8;go_wp2_with (first|((with_reducible refine gate_callee (f:=15) rfl ?_);refine gm (some 18) Try.func15 #[.slice A0 l0.length c0,.int .i64 1048576] ?_;(with_reducible refine (laws_szIntSS.calls k _ _ l0 1048576 t243 _ ?side1 ?side2 A5.out).mono ?_);(case side1=>exact zc HR0.out);(case side2=>exact HC0.out);rintro e w' ⟨rfl,⟨nd,rfl⟩⟩;refine ⟨_,rfl,?_⟩)|((with_reducible refine gate_callee (f:=45) rfl ?_);refine gm (some 23) Try.func45 #[.slice A2 l2.length c2,.int .i64 t243] ?_;(with_reducible refine (laws_szRatioS.calls _ _ l2 t243 t244 _ ?side1 ?side2 A7.out).mono ?_);(case side1=>exact zc HR2.out);(case side2=>exact HC2.out);rintro e w' ⟨rfl,⟨nd,rfl⟩⟩;refine ⟨_,rfl,?_⟩)|((with_reducible refine gate_callee (f:=17) rfl ?_);refine gm (some 27) Try.func17 #[.slice A0 l0.length c0] ?_;(with_reducible refine (laws_toIntSS.calls k _ _ l0 t245 _ ?side1 ?side2 A9.out).mono ?_);(case side1=>exact zc HR0.out);(case side2=>exact HC0.out);rintro e w41 ⟨v246,rfl,ho0,hb⟩;refine ⟨_,rfl,?_⟩;have HO247:=aM (Kd.S_lower ho0 (below_size (zb HB.out)));replace HB:=aM (below_step (zb HB.out) hb);(try clear hb);(try clear hb2);(try clear hk);(try clear hi);(try clear ho0))|((with_reducible refine gate_callee (f:=18) rfl ?_);refine gm (some 29) Try.func18 #[.slice A1 l1.length c1] ?_;(with_reducible refine (laws_toIntS.calls k _ _ l1 t248 _ ?side1 ?side2 A10.out).mono ?_);(case side1=>exact zc (Kd.C_below HR1.out HB.out));(case side2=>exact HC1.out);rintro e w42 ⟨v249,rfl,ho0,hb⟩;refine ⟨_,rfl,?_⟩;replace HO247:=aM (Kd.S_elder' (by (with_reducible repeat (first|apply Kd.S_alloc|apply Kd.S_drewN|apply Kd.S_drew));exact HO247.out) (Kd.R_base ho0) hb);have HO250:=aM (Kd.R_lower ho0 (below_size (zb HB.out)));replace HB:=aM (below_step (zb HB.out) hb);(try clear hb);(try clear hb2);(try clear hk);(try clear hi);(try clear ho0))|((with_reducible refine gate_callee (f:=47) rfl ?_);refine gm (some 31) Try.func47 #[.slice A2 l2.length c2] ?_;(with_reducible refine (laws_toRatioS.calls k _ _ l2 t251 _ ?side1 ?side2 A11.out).mono ?_);(case side1=>exact zc (Kd.C_below HR2.out HB.out));(case side2=>exact HC2.out);rintro e w43 ⟨v252,rfl,ho0,hb⟩;refine ⟨_,rfl,?_⟩;replace HO247:=aM (Kd.S_below (by (with_reducible repeat (first|apply Kd.S_alloc|apply Kd.S_drewN|apply Kd.S_drew));exact HO247.out) hb);replace HO250:=aM (Kd.R_below (zr HO250.out) hb);have HO253:=aM (Kd.R_lower ho0 (below_size (zb HB.out)));replace HB:=aM (below_step (zb HB.out) hb);(try clear hb);(try clear hb2);(try clear hk);(try clear hi);(try clear ho0);obtain ⟨Ao44,co44,eo44⟩:=Kd.S_slice HO247.out;subst eo44;obtain ⟨Ao45,co45,eo45⟩:=Kd.R_slice HO250.out;subst eo45;obtain ⟨Ao46,co46,eo46⟩:=Kd.R_slice HO253.out;subst eo46)|((with_reducible refine gate_callee (f:=46) rfl ?_);refine gm (some 32) Try.func46 #[.slice Ao44 t245.length co44,.slice Ao45 t248.length co45,.slice Ao46 t251.length co46] ?_;(with_reducible refine (spec_FitsSystem.calls k _ _ t245 _ _ t248 _ _ t251 t254 _ ?side1 ?side2 ?side3 ?side4 ?side5 ?side6 A12.out).mono ?_);(case side1=>exact zc (Kd.S_reads' HO247.out).2.2);(case side2=>exact (Kd.S_reads' HO247.out).2.1);(case side3=>exact zc (Kd.R_reads' HO250.out).2.2);(case side4=>exact (Kd.R_reads' HO250.out).2.1);(case side5=>exact zc (Kd.R_reads' HO253.out).2.2);(case side6=>exact (Kd.R_reads' HO253.out).2.1);rintro e w47 ⟨rfl,hb⟩;refine ⟨_,rfl,?_⟩;replace HO247:=aM (Kd.S_below (by (with_reducible repeat (first|apply Kd.S_alloc|apply Kd.S_drewN|apply Kd.S_drew));exact HO247.out) hb);replace HO250:=aM (Kd.R_below (zr HO250.out) hb);replace HO253:=aM (Kd.R_below (zr HO253.out) hb);replace HB:=aM (below_step (zb HB.out) hb);(try clear hb);(try clear hb2);(try clear hk);(try clear hi))|((with_reducible refine gate_callee (f:=17) rfl ?_);refine gm (some 34) Try.func17 #[.slice A0 l0.length c0] ?_;(with_reducible refine (laws_toIntSS.calls k _ _ l0 t255 _ ?side1 ?side2 A13.out).mono ?_);(case side1=>exact zc (Kd.C_below HR0.out HB.out));(case side2=>exact HC0.out);rintro e w48 ⟨v256,rfl,ho0,hb⟩;refine ⟨_,rfl,?_⟩;replace HO253:=aM (Kd.R_below (zr HO253.out) hb);have HO257:=aM (Kd.S_lower (Kd.S_new' (Kd.S_new' ho0 (Kd.S_lt (by (with_reducible repeat (first|apply Kd.S_alloc|apply Kd.S_drewN|apply Kd.S_drew));exact HO247.out))) (Kd.R_lt (zr HO250.out))) (below_size (zb HB.out)));replace HO247:=aM (Kd.S_elder' (by (with_reducible repeat (first|apply Kd.S_alloc|apply Kd.S_drewN|apply Kd.S_drew));exact HO247.out) (Kd.S_base ho0) hb);replace HO250:=aM (Kd.R_below (zr HO250.out) hb);replace HB:=aM (below_step (zb HB.out) hb);(try clear hb);(try clear hb2);(try clear hk);(try clear hi);(try clear ho0))|((with_reducible refine gate_callee (f:=18) rfl ?_);refine gm (some 36) Try.func18 #[.slice A1 l1.length c1] ?_;(with_reducible refine (laws_toIntS.calls k _ _ l1 t258 _ ?side1 ?side2 A14.out).mono ?_);(case side1=>exact zc (Kd.C_below HR1.out HB.out));(case side2=>exact HC1.out);rintro e w49 ⟨v259,rfl,ho0,hb⟩;refine ⟨_,rfl,?_⟩;replace HO247:=aM (Kd.S_elder' (by (with_reducible repeat (first|apply Kd.S_alloc|apply Kd.S_drewN|apply Kd.S_drew));exact HO247.out) (Kd.R_base ho0) hb);replace HO253:=aM (Kd.R_below (zr HO253.out) hb);replace HO257:=aM (Kd.S_elder' (by (with_reducible repeat (first|apply Kd.S_alloc|apply Kd.S_drewN|apply Kd.S_drew));exact HO257.out) (Kd.R_base ho0) hb);have HO260:=aM (Kd.R_lower (Kd.R_new' ho0 (Kd.R_lt (zr HO250.out))) (below_size (zb HB.out)));replace HO250:=aM (Kd.R_elder' (zr HO250.out) (Kd.R_base ho0) hb);replace HB:=aM (below_step (zb HB.out) hb);(try clear hb);(try clear hb2);(try clear hk);(try clear hi);(try clear ho0))|((with_reducible refine gate_callee (f:=47) rfl ?_);refine gm (some 38) Try.func47 #[.slice A2 l2.length c2] ?_;(with_reducible refine (laws_toRatioS.calls k _ _ l2 t261 _ ?side1 ?side2 A15.out).mono ?_);(case side1=>exact zc (Kd.C_below HR2.out HB.out));(case side2=>exact HC2.out);rintro e w50 ⟨v262,rfl,ho0,hb⟩;refine ⟨_,rfl,?_⟩;replace HO247:=aM (Kd.S_below (by (with_reducible repeat (first|apply Kd.S_alloc|apply Kd.S_drewN|apply Kd.S_drew));exact HO247.out) hb);replace HO250:=aM (Kd.R_below (zr HO250.out) hb);replace HO257:=aM (Kd.S_below (by (with_reducible repeat (first|apply Kd.S_alloc|apply Kd.S_drewN|apply Kd.S_drew));exact HO257.out) hb);replace HO260:=aM (Kd.R_below (zr HO260.out) hb);have HO263:=aM (Kd.R_lower (Kd.R_new' ho0 (Kd.R_lt (zr HO253.out))) (below_size (zb HB.out)));replace HO253:=aM (Kd.R_elder' (zr HO253.out) (Kd.R_base ho0) hb);replace HB:=aM (below_step (zb HB.out) hb);(try clear hb);(try clear hb2);(try clear hk);(try clear hi);(try clear ho0);obtain ⟨Ao51,co51,eo51⟩:=Kd.S_slice HO257.out;subst eo51;obtain ⟨Ao52,co52,eo52⟩:=Kd.R_slice HO260.out;subst eo52;obtain ⟨Ao53,co53,eo53⟩:=Kd.R_slice HO263.out;subst eo53)|((with_reducible refine gate_callee (f:=28) rfl ?_);refine gm (some 42) Try.func28 #[.slice Ao51 t255.length co51,.slice Ao52 t258.length co52,.slice Ao53 t261.length co53] ?_;(with_reducible refine (impl_FitsSystem.calls k _ _ t255 _ _ t258 _ _ t261 t264 _ ?side1 ?side2 ?side3 ?side4 ?side5 ?side6 A16.out).mono ?_);(case side1=>exact zc (Kd.S_reads' HO257.out).2.2);(case side2=>exact (Kd.S_reads' HO257.out).2.1);(case side3=>exact zc (Kd.R_reads' HO260.out).2.2);(case side4=>exact (Kd.R_reads' HO260.out).2.1);(case side5=>exact zc (Kd.R_reads' HO263.out).2.2);(case side6=>exact (Kd.R_reads' HO263.out).2.1);rintro e w54 ⟨rfl,hb⟩;refine ⟨_,rfl,?_⟩;replace HO247:=aM (Kd.S_below (by (with_reducible repeat (first|apply Kd.S_alloc|apply Kd.S_drewN|apply Kd.S_drew));exact HO247.out) hb);replace HO250:=aM (Kd.R_below (zr HO250.out) hb);replace HO253:=aM (Kd.R_below (zr HO253.out) hb);replace HO257:=aM (Kd.S_below (by (with_reducible repeat (first|apply Kd.S_alloc|apply Kd.S_drewN|apply Kd.S_drew));exact HO257.out) hb);replace HO260:=aM (Kd.R_below (zr HO260.out) hb);replace HO263:=aM (Kd.R_below (zr HO263.out) hb);replace HB:=aM (below_step (zb HB.out) hb);(try clear hb);(try clear hb2);(try clear hk);(try clear hi))|((with_reducible refine gate_callee (f:=17) rfl ?_);refine gm (some 48) Try.func17 #[.slice A0 l0.length c0] ?_;(with_reducible refine (laws_toIntSS.calls k _ _ l0 t265 _ ?side1 ?side2 A32.out).mono ?_);(case side1=>exact zc (Kd.C_below HR0.out HB.out));(case side2=>exact HC0.out);rintro e w55 ⟨v266,rfl,ho0,hb⟩;refine ⟨_,rfl,?_⟩;replace HO253:=aM (Kd.R_below (zr HO253.out) hb);replace HO263:=aM (Kd.R_below (zr HO263.out) hb);have HO267:=aM (Kd.S_lower (Kd.S_new' (Kd.S_new' (Kd.S_new' (Kd.S_new' ho0 (Kd.S_lt (by (with_reducible repeat (first|apply Kd.S_alloc|apply Kd.S_drewN|apply Kd.S_drew));exact HO247.out))) (Kd.R_lt (zr HO250.out))) (Kd.S_lt (by (with_reducible repeat (first|apply Kd.S_alloc|apply Kd.S_drewN|apply Kd.S_drew));exact HO257.out))) (Kd.R_lt (zr HO260.out))) (below_size (zb HB.out)));replace HO247:=aM (Kd.S_elder' (by (with_reducible repeat (first|apply Kd.S_alloc|apply Kd.S_drewN|apply Kd.S_drew));exact HO247.out) (Kd.S_base ho0) hb);replace HO250:=aM (Kd.R_below (zr HO250.out) hb);replace HO257:=aM (Kd.S_elder' (by (with_reducible repeat (first|apply Kd.S_alloc|apply Kd.S_drewN|apply Kd.S_drew));exact HO257.out) (Kd.S_base ho0) hb);replace HO260:=aM (Kd.R_below (zr HO260.out) hb);replace HB:=aM (below_step (zb HB.out) hb);(try clear hb);(try clear hb2);(try clear hk);(try clear hi);(try clear ho0);obtain ⟨Ao56,co56,eo56⟩:=Kd.S_slice HO267.out;subst eo56)|((with_reducible refine gate_callee (f:=21) rfl ?_);refine gm (some 49) Try.func21 #[.slice Ao51 t255.length co51,.slice Ao56 t265.length co56] ?_;(with_reducible refine (laws_eqIntSS.calls k _ _ t255 _ _ t265 true _ ?side1 ?side2 ?side3 ?side4 A33.out).mono ?_);(case side1=>exact zc (Kd.S_reads' HO257.out).2.2);(case side2=>exact (Kd.S_reads' HO257.out).2.1);(case side3=>exact zc (Kd.S_reads' HO267.out).2.2);(case side4=>exact (Kd.S_reads' HO267.out).2.1);rintro e w' ⟨rfl,⟨nd,rfl⟩⟩;refine ⟨_,rfl,?_⟩)|((with_reducible refine gate_callee (f:=18) rfl ?_);refine gm (some 53) Try.func18 #[.slice A1 l1.length c1] ?_;(with_reducible refine (laws_toIntS.calls k _ _ l1 t269 _ ?side1 ?side2 A35.out).mono ?_);(case side1=>repeat (first|exact (Kd.C_below HR1.out (zb HB.out))|(with_reducible refine Kd.C_alloc ?_ _)|(with_reducible refine Kd.C_drewN ?_ _)|(with_reducible refine Kd.C_drew ?_)));(case side2=>exact HC1.out);rintro e w57 ⟨v270,rfl,ho0,hb⟩;refine ⟨_,rfl,?_⟩;replace HO247:=aM (Kd.S_elder' (by (with_reducible repeat (first|apply Kd.S_alloc|apply Kd.S_drewN|apply Kd.S_drew));exact HO247.out) (Kd.R_base ho0) hb);replace HO253:=aM (Kd.R_below (zr HO253.out) hb);replace HO257:=aM (Kd.S_elder' (by (with_reducible repeat (first|apply Kd.S_alloc|apply Kd.S_drewN|apply Kd.S_drew));exact HO257.out) (Kd.R_base ho0) hb);replace HO263:=aM (Kd.R_below (zr HO263.out) hb);replace HO267:=aM (Kd.S_elder' (by (with_reducible repeat (first|apply Kd.S_alloc|apply Kd.S_drewN|apply Kd.S_drew));exact HO267.out) (Kd.R_base ho0) hb);have HO271:=aM (Kd.R_lower (Kd.R_new' (Kd.R_new' ho0 (Kd.R_lt (zr HO250.out))) (Kd.R_lt (zr HO260.out))) (below_size (zb HB.out)));replace HO250:=aM (Kd.R_elder' (zr HO250.out) (Kd.R_base ho0) hb);replace HO260:=aM (Kd.R_elder' (zr HO260.out) (Kd.R_base ho0) hb);replace HB:=aM (below_step (zb HB.out) hb);(try clear hb);(try clear hb2);(try clear hk);(try clear hi);(try clear ho0);obtain ⟨Ao58,co58,eo58⟩:=Kd.R_slice HO271.out;subst eo58)|((with_reducible refine gate_callee (f:=22) rfl ?_);refine gm (some 54) Try.func22 #[.slice Ao52 t258.length co52,.slice Ao58 t269.length co58] ?_;(with_reducible refine (laws_eqIntS.calls k _ _ t258 _ _ t269 true _ ?side1 ?side2 ?side3 ?side4 A36.out).mono ?_);(case side1=>exact zc (Kd.R_reads' HO260.out).2.2);(case side2=>exact (Kd.R_reads' HO260.out).2.1);(case side3=>exact zc (Kd.R_reads' HO271.out).2.2);(case side4=>exact (Kd.R_reads' HO271.out).2.1);rintro e w' ⟨rfl,⟨nd,rfl⟩⟩;refine ⟨_,rfl,?_⟩)|((with_reducible refine gate_callee (f:=47) rfl ?_);refine gm (some 58) Try.func47 #[.slice A2 l2.length c2] ?_;(with_reducible refine (laws_toRatioS.calls k _ _ l2 t273 _ ?side1 ?side2 A38.out).mono ?_);(case side1=>repeat (first|exact (Kd.C_below HR2.out (zb HB.out))|(with_reducible refine Kd.C_alloc ?_ _)|(with_reducible refine Kd.C_drewN ?_ _)|(with_reducible refine Kd.C_drew ?_)));(case side2=>exact HC2.out);rintro e w59 ⟨v274,rfl,ho0,hb⟩;refine ⟨_,rfl,?_⟩;replace HO247:=aM (Kd.S_below (by (with_reducible repeat (first|apply Kd.S_alloc|apply Kd.S_drewN|apply Kd.S_drew));exact HO247.out) hb);replace HO250:=aM (Kd.R_below (zr HO250.out) hb);replace HO257:=aM (Kd.S_below (by (with_reducible repeat (first|apply Kd.S_alloc|apply Kd.S_drewN|apply Kd.S_drew));exact HO257.out) hb);replace HO260:=aM (Kd.R_below (zr HO260.out) hb);replace HO267:=aM (Kd.S_below (by (with_reducible repeat (first|apply Kd.S_alloc|apply Kd.S_drewN|apply Kd.S_drew));exact HO267.out) hb);replace HO271:=aM (Kd.R_below (zr HO271.out) hb);have HO275:=aM (Kd.R_lower (Kd.R_new' (Kd.R_new' ho0 (Kd.R_lt (zr HO253.out))) (Kd.R_lt (zr HO263.out))) (below_size (zb HB.out)));replace HO253:=aM (Kd.R_elder' (zr HO253.out) (Kd.R_base ho0) hb);replace HO263:=aM (Kd.R_elder' (zr HO263.out) (Kd.R_base ho0) hb);replace HB:=aM (below_step (zb HB.out) hb);(try clear hb);(try clear hb2);(try clear hk);(try clear hi);(try clear ho0);obtain ⟨Ao60,co60,eo60⟩:=Kd.R_slice HO275.out;subst eo60)|((with_reducible refine gate_callee (f:=33) rfl ?_);refine gm (some 59) Try.func33 #[.slice Ao53 t261.length co53,.slice Ao60 t273.length co60] ?_;(with_reducible refine (laws_eqRatioS.calls k _ _ t261 _ _ t273 true _ ?side1 ?side2 ?side3 ?side4 A39.out).mono ?_);(case side1=>exact zc (Kd.R_reads' HO263.out).2.2);(case side2=>exact (Kd.R_reads' HO263.out).2.1);(case side3=>exact zc (Kd.R_reads' HO275.out).2.2);(case side4=>exact (Kd.R_reads' HO275.out).2.1);rintro e w61 ⟨rfl,hb⟩;refine ⟨_,rfl,?_⟩;replace HO247:=aM (Kd.S_below (by (with_reducible repeat (first|apply Kd.S_alloc|apply Kd.S_drewN|apply Kd.S_drew));exact HO247.out) hb);replace HO250:=aM (Kd.R_below (zr HO250.out) hb);replace HO253:=aM (Kd.R_below (zr HO253.out) hb);replace HO257:=aM (Kd.S_below (by (with_reducible repeat (first|apply Kd.S_alloc|apply Kd.S_drewN|apply Kd.S_drew));exact HO257.out) hb);replace HO260:=aM (Kd.R_below (zr HO260.out) hb);replace HO263:=aM (Kd.R_below (zr HO263.out) hb);replace HO267:=aM (Kd.S_below (by (with_reducible repeat (first|apply Kd.S_alloc|apply Kd.S_drewN|apply Kd.S_drew));exact HO267.out) hb);replace HO271:=aM (Kd.R_below (zr HO271.out) hb);replace HO275:=aM (Kd.R_below (zr HO275.out) hb);replace HB:=aM (below_step (zb HB.out) hb);(try clear hb);(try clear hb2);(try clear hk);(try clear hi)));go_ret;exact ⟨by first|rfl|(simp [errW_none,errW_some]<;>rfl)|(simp [*,errW_none,errW_some]<;>rfl),zb HB.out⟩
       ·replace c40:=Bool.eq_false_iff.mpr c40;subst c40;replace H:=ifF H;obtain rfl:=Option.some.inj H;go_enter Try.func8,Try.ntmps8;go_wp2_with (first|((with_reducible refine gate_callee (f:=15) rfl ?_);refine gm (some 18) Try.func15 #[.slice A0 l0.length c0,.int .i64 1048576] ?_;(with_reducible refine (laws_szIntSS.calls k _ _ l0 1048576 t243 _ ?side1 ?side2 A5.out).mono ?_);(case side1=>exact zc HR0.out);(case side2=>exact HC0.out);rintro e w' ⟨rfl,⟨nd,rfl⟩⟩;refine ⟨_,rfl,?_⟩)|((with_reducible refine gate_callee (f:=45) rfl ?_);refine gm (some 23) Try.func45 #[.slice A2 l2.length c2,.int .i64 t243] ?_;(with_reducible refine (laws_szRatioS.calls _ _ l2 t243 t244 _ ?side1 ?side2 A7.out).mono ?_);(case side1=>exact zc HR2.out);(case side2=>exact HC2.out);rintro e w' ⟨rfl,⟨nd,rfl⟩⟩;refine ⟨_,rfl,?_⟩)|((with_reducible refine gate_callee (f:=17) rfl ?_);refine gm (some 27) Try.func17 #[.slice A0 l0.length c0] ?_;(with_reducible refine (laws_toIntSS.calls k _ _ l0 t245 _ ?side1 ?side2 A9.out).mono ?_);(case side1=>exact zc HR0.out);(case side2=>exact HC0.out);rintro e w62 ⟨v246,rfl,ho0,hb⟩;refine ⟨_,rfl,?_⟩;have HO247:=aM (Kd.S_lower ho0 (below_size (zb HB.out)));replace HB:=aM (below_step (zb HB.out) hb);(try clear hb);(try clear hb2);(try clear hk);(try clear hi);(try clear ho0))|((with_reducible refine gate_callee (f:=18) rfl ?_);refine gm (some 29) Try.func18 #[.slice A1 l1.length c1] ?_;(with_reducible refine (laws_toIntS.calls k _ _ l1 t248 _ ?side1 ?side2 A10.out).mono ?_);(case side1=>exact zc (Kd.C_below HR1.out HB.out));(case side2=>exact HC1.out);rintro e w63 ⟨v249,rfl,ho0,hb⟩;refine ⟨_,rfl,?_⟩;replace HO247:=aM (Kd.S_elder' (by (with_reducible repeat (first|apply Kd.S_alloc|apply Kd.S_drewN|apply Kd.S_drew));exact HO247.out) (Kd.R_base ho0) hb);have HO250:=aM (Kd.R_lower ho0 (below_size (zb HB.out)));replace HB:=aM (below_step (zb HB.out) hb);(try clear hb);(try clear hb2);(try clear hk);(try clear hi);(try clear ho0))|((with_reducible refine gate_callee (f:=47) rfl ?_);refine gm (some 31) Try.func47 #[.slice A2 l2.length c2] ?_;(with_reducible refine (laws_toRatioS.calls k _ _ l2 t251 _ ?side1 ?side2 A11.out).mono ?_);(case side1=>exact zc (Kd.C_below HR2.out HB.out));(case side2=>exact HC2.out);rintro e w64 ⟨v252,rfl,ho0,hb⟩;refine ⟨_,rfl,?_⟩;replace HO247:=aM (Kd.S_below (by (with_reducible repeat (first|apply Kd.S_alloc|apply Kd.S_drewN|apply Kd.S_drew));exact HO247.out) hb);replace HO250:=aM (Kd.R_below (zr HO250.out) hb);have HO253:=aM (Kd.R_lower ho0 (below_size (zb HB.out)));replace HB:=aM (below_step (zb HB.out) hb);(try clear hb);(try clear hb2);(try clear hk);(try clear hi);(try clear ho0);obtain ⟨Ao65,co65,eo65⟩:=Kd.S_slice HO247.out;subst eo65;obtain ⟨Ao66,co66,eo66⟩:=Kd.R_slice HO250.out;subst eo66;obtain ⟨Ao67,co67,eo67⟩:=Kd.R_slice HO253.out;subst eo67)|((with_reducible refine gate_callee (f:=46) rfl ?_);refine gm (some 32) Try.func46 #[.slice Ao65 t245.length co65,.slice Ao66 t248.length co66,.slice Ao67 t251.length co67] ?_;(with_reducible refine (spec_FitsSystem.calls k _ _ t245 _ _ t248 _ _ t251 t254 _ ?side1 ?side2 ?side3 ?side4 ?side5 ?side6 A12.out).mono ?_);(case side1=>exact zc (Kd.S_reads' HO247.out).2.2);(case side2=>exact (Kd.S_reads' HO247.out).2.1);(case side3=>exact zc (Kd.R_reads' HO250.out).2.2);(case side4=>exact (Kd.R_reads' HO250.out).2.1);(case side5=>exact zc (Kd.R_reads' HO253.out).2.2);(case side6=>exact (Kd.R_reads' HO253.out).2.1);rintro e w68 ⟨rfl,hb⟩;refine ⟨_,rfl,?_⟩;replace HO247:=aM (Kd.S_below (by (with_reducible repeat (first|apply Kd.S_alloc|apply Kd.S_drewN|apply Kd.S_drew));exact HO247.out) hb);replace HO250:=aM (Kd.R_below (zr HO250.out) hb);replace HO253:=aM (Kd.R_below (zr HO253.out) hb);replace HB:=aM (below_step (zb HB.out) hb);(try clear hb);(try clear hb2);(try clear hk);(try clear hi))|((with_reducible refine gate_callee (f:=17) rfl ?_);refine gm (some 34) Try.func17 #[.slice A0 l0.length c0] ?_;(with_reducible refine (laws_toIntSS.calls k _ _ l0 t255 _ ?side1 ?side2 A13.out).mono ?_);(case side1=>exact zc (Kd.C_below HR0.out HB.out));(case side2=>exact HC0.out);rintro e w69 ⟨v256,rfl,ho0,hb⟩;refine ⟨_,rfl,?_⟩;replace HO253:=aM (Kd.R_below (zr HO253.out) hb);have HO257:=aM (Kd.S_lower (Kd.S_new' (Kd.S_new' ho0 (Kd.S_lt (by (with_reducible repeat (first|apply Kd.S_alloc|apply Kd.S_drewN|apply Kd.S_drew));exact HO247.out))) (Kd.R_lt (zr HO250.out))) (below_size (zb HB.out)));replace HO247:=aM (Kd.S_elder' (by (with_reducible repeat (first|apply Kd.S_alloc|apply Kd.S_drewN|apply Kd.S_drew));exact HO247.out) (Kd.S_base ho0) hb);replace HO250:=aM (Kd.R_below (zr HO250.out) hb);replace HB:=aM (below_step (zb HB.out) hb);(try clear hb);(try clear hb2);(try clear hk);(try clear hi);(try clear ho0))|((with_reducible refine gate_callee (f:=18) rfl ?_);refine gm (some 36) Try.func18 #[.slice A1 l1.length c1] ?_;(with_reducible refine (laws_toIntS.calls k _ _ l1 t258 _ ?side1 ?side2 A14.out).mono ?_);(case side1=>exact zc (Kd.C_below HR1.out HB.out));(case side2=>exact HC1.out);rintro e w70 ⟨v259,rfl,ho0,hb⟩;refine ⟨_,rfl,?_⟩;replace HO247:=aM (Kd.S_elder' (by (with_reducible repeat (first|apply Kd.S_alloc|apply Kd.S_drewN|apply Kd.S_drew));exact HO247.out) (Kd.R_base ho0) hb);replace HO253:=aM (Kd.R_below (zr HO253.out) hb);replace HO257:=aM (Kd.S_elder' (by (with_reducible repeat (first|apply Kd.S_alloc|apply Kd.S_drewN|apply Kd.S_drew));exact HO257.out) (Kd.R_base ho0) hb);have HO260:=aM (Kd.R_lower (Kd.R_new' ho0 (Kd.R_lt (zr HO250.out))) (below_size (zb HB.out)));replace HO250:=aM (Kd.R_elder' (zr HO250.out) (Kd.R_base ho0) hb);replace HB:=aM (below_step (zb HB.out) hb);(try clear hb);(try clear hb2);(try clear hk);(try clear hi);(try clear ho0))|((with_reducible refine gate_callee (f:=47) rfl ?_);refine gm (some 38) Try.func47 #[.slice A2 l2.length c2] ?_;(with_reducible refine (laws_toRatioS.calls k _ _ l2 t261 _ ?side1 ?side2 A15.out).mono ?_);(case side1=>exact zc (Kd.C_below HR2.out HB.out));(case side2=>exact HC2.out);rintro e w71 ⟨v262,rfl,ho0,hb⟩;refine ⟨_,rfl,?_⟩;replace HO247:=aM (Kd.S_below (by (with_reducible repeat (first|apply Kd.S_alloc|apply Kd.S_drewN|apply Kd.S_drew));exact HO247.out) hb);replace HO250:=aM (Kd.R_below (zr HO250.out) hb);replace HO257:=aM (Kd.S_below (by (with_reducible repeat (first|apply Kd.S_alloc|apply Kd.S_drewN|apply Kd.S_drew));exact HO257.out) hb);replace HO260:=aM (Kd.R_below (zr HO260.out) hb);have HO263:=aM (Kd.R_lower (Kd.R_new' ho0 (Kd.R_lt (zr HO253.out))) (below_size (zb HB.out)));replace HO253:=aM (Kd.R_elder' (zr HO253.out) (Kd.R_base ho0) hb);replace HB:=aM (below_step (zb HB.out) hb);(try clear hb);(try clear hb2);(try clear hk);(try clear hi);(try clear ho0);obtain ⟨Ao72,co72,eo72⟩:=Kd.S_slice HO257.out;subst eo72;obtain ⟨Ao73,co73,eo73⟩:=Kd.R_slice HO260.out;subst eo73;obtain ⟨Ao74,co74,eo74⟩:=Kd.R_slice HO263.out;subst eo74)|((with_reducible refine gate_callee (f:=28) rfl ?_);refine gm (some 42) Try.func28 #[.slice Ao72 t255.length co72,.slice Ao73 t258.length co73,.slice Ao74 t261.length co74] ?_;(with_reducible refine (impl_FitsSystem.calls k _ _ t255 _ _ t258 _ _ t261 t264 _ ?side1 ?side2 ?side3 ?side4 ?side5 ?side6 A16.out).mono ?_);(case side1=>exact zc (Kd.S_reads' HO257.out).2.2);(case side2=>exact (Kd.S_reads' HO257.out).2.1);(case side3=>exact zc (Kd.R_reads' HO260.out).2.2);(case side4=>exact (Kd.R_reads' HO260.out).2.1);(case side5=>exact zc (Kd.R_reads' HO263.out).2.2);(case side6=>exact (Kd.R_reads' HO263.out).2.1);rintro e w75 ⟨rfl,hb⟩;refine ⟨_,rfl,?_⟩;replace HO247:=aM (Kd.S_below (by (with_reducible repeat (first|apply Kd.S_alloc|apply Kd.S_drewN|apply Kd.S_drew));exact HO247.out) hb);replace HO250:=aM (Kd.R_below (zr HO250.out) hb);replace HO253:=aM (Kd.R_below (zr HO253.out) hb);replace HO257:=aM (Kd.S_below (by (with_reducible repeat (first|apply Kd.S_alloc|apply Kd.S_drewN|apply Kd.S_drew));exact HO257.out) hb);replace HO260:=aM (Kd.R_below (zr HO260.out) hb);replace HO263:=aM (Kd.R_below (zr HO263.out) hb);replace HB:=aM (below_step (zb HB.out) hb);(try clear hb);(try clear hb2);(try clear hk);(try clear hi))|((with_reducible refine gate_callee (f:=17) rfl ?_);refine gm (some 48) Try.func17 #[.slice A0 l0.length c0] ?_;(with_reducible refine (laws_toIntSS.calls k _ _ l0 t265 _ ?side1 ?side2 A32.out).mono ?_);(case side1=>exact zc (Kd.C_below HR0.out HB.out));(case side2=>exact HC0.out);rintro e w76 ⟨v266,rfl,ho0,hb⟩;refine ⟨_,rfl,?_⟩;replace HO253:=aM (Kd.R_below (zr HO253.out) hb);replace HO263:=aM (Kd.R_below (zr HO263.out) hb);have HO267:=aM (Kd.S_lower (Kd.S_new' (Kd.S_new' (Kd.S_new' (Kd.S_new' ho0 (Kd.S_lt (by (with_reducible repeat (first|apply Kd.S_alloc|apply Kd.S_drewN|apply Kd.S_drew));exact HO247.out))) (Kd.R_lt (zr HO250.out))) (Kd.S_lt (by (with_reducible repeat (first|apply Kd.S_alloc|apply Kd.S_drewN|apply Kd.S_drew));exact HO257.out))) (Kd.R_lt (zr HO260.out))) (below_size (zb HB.out)));replace HO247:=aM (Kd.S_elder' (by (with_reducible repeat (first|apply Kd.S_alloc|apply Kd.S_drewN|apply Kd.S_drew));exact HO247.out) (Kd.S_base ho0) hb);replace HO250:=aM (Kd.R_below (zr HO250.out) hb);replace HO257:=aM (Kd.S_elder' (by (with_reducible repeat (first|apply Kd.S_alloc|apply Kd.S_drewN|apply Kd.S_drew));exact HO257.out) (Kd.S_base ho0) hb);replace HO260:=aM (Kd.R_below (zr HO260.out) hb);replace HB:=aM (below_step (zb HB.out) hb);(try clear hb);(try clear hb2);(try clear hk);(try clear hi);(try clear ho0);obtain ⟨Ao77,co77,eo77⟩:=Kd.S_slice HO267.out;subst eo77)|((with_reducible refine gate_callee (f:=21) rfl ?_);refine gm (some 49) Try.func21 #[.slice Ao72 t255.length co72,.slice Ao77 t265.length co77] ?_;(with_reducible refine (laws_eqIntSS.calls k _ _ t255 _ _ t265 true _ ?side1 ?side2 ?side3 ?side4 A33.out).mono ?_);(case side1=>exact zc (Kd.S_reads' HO257.out).2.2);(case side2=>exact (Kd.S_reads' HO257.out).2.1);(case side3=>exact zc (Kd.S_reads' HO267.out).2.2);(case side4=>exact (Kd.S_reads' HO267.out).2.1);rintro e w' ⟨rfl,⟨nd,rfl⟩⟩;refine ⟨_,rfl,?_⟩)|((with_reducible refine gate_callee (f:=18) rfl ?_);refine gm (some 53) Try.func18 #[.slice A1 l1.length c1] ?_;(with_reducible refine (laws_toIntS.calls k _ _ l1 t269 _ ?side1 ?side2 A35.out).mono ?_);(case side1=>repeat (first|exact (Kd.C_below HR1.out (zb HB.out))|(with_reducible refine Kd.C_alloc ?_ _)|(with_reducible refine Kd.C_drewN ?_ _)|(with_reducible refine Kd.C_drew ?_)));(case side2=>exact HC1.out);rintro e w78 ⟨v270,rfl,ho0,hb⟩;refine ⟨_,rfl,?_⟩;replace HO247:=aM (Kd.S_elder' (by (with_reducible repeat (first|apply Kd.S_alloc|apply Kd.S_drewN|apply Kd.S_drew));exact HO247.out) (Kd.R_base ho0) hb);replace HO253:=aM (Kd.R_below (zr HO253.out) hb);replace HO257:=aM (Kd.S_elder' (by (with_reducible repeat (first|apply Kd.S_alloc|apply Kd.S_drewN|apply Kd.S_drew));exact HO257.out) (Kd.R_base ho0) hb);replace HO263:=aM (Kd.R_below (zr HO263.out) hb);replace HO267:=aM (Kd.S_elder' (by (with_reducible repeat (first|apply Kd.S_alloc|apply Kd.S_drewN|apply Kd.S_drew));exact HO267.out) (Kd.R_base ho0) hb);have HO271:=aM (Kd.R_lower (Kd.R_new' (Kd.R_new' ho0 (Kd.R_lt (zr HO250.out))) (Kd.R_lt (zr HO260.out))) (below_size (zb HB.out)));replace HO250:=aM (Kd.R_elder' (zr HO250.out) (Kd.R_base ho0) hb);replace HO260:=aM (Kd.R_elder' (zr HO260.out) (Kd.R_base ho0) hb);replace HB:=aM (below_step (zb HB.out) hb);(try clear hb);(try clear hb2);(try clear hk);(try clear hi);(try clear ho0);obtain ⟨Ao79,co79,eo79⟩:=Kd.R_slice HO271.out;subst eo79)|((with_reducible refine gate_callee (f:=22) rfl ?_);refine gm (some 54) Try.func22 #[.slice Ao73 t258.length co73,.slice Ao79 t269.length co79] ?_;(with_reducible refine (laws_eqIntS.calls k _ _ t258 _ _ t269 true _ ?side1 ?side2 ?side3 ?side4 A36.out).mono ?_);(case side1=>exact zc (Kd.R_reads' HO260.out).2.2);(case side2=>exact (Kd.R_reads' HO260.out).2.1);(case side3=>exact zc (Kd.R_reads' HO271.out).2.2);(case side4=>exact (Kd.R_reads' HO271.out).2.1);rintro e w' ⟨rfl,⟨nd,rfl⟩⟩;refine ⟨_,rfl,?_⟩)|((with_reducible refine gate_callee (f:=47) rfl ?_);refine gm (some 58) Try.func47 #[.slice A2 l2.length c2] ?_;(with_reducible refine (laws_toRatioS.calls k _ _ l2 t273 _ ?side1 ?side2 A38.out).mono ?_);(case side1=>repeat (first|exact (Kd.C_below HR2.out (zb HB.out))|(with_reducible refine Kd.C_alloc ?_ _)|(with_reducible refine Kd.C_drewN ?_ _)|(with_reducible refine Kd.C_drew ?_)));(case side2=>exact HC2.out);rintro e w80 ⟨v274,rfl,ho0,hb⟩;refine ⟨_,rfl,?_⟩;replace HO247:=aM (Kd.S_below (by (with_reducible repeat (first|apply Kd.S_alloc|apply Kd.S_drewN|apply Kd.S_drew));exact HO247.out) hb);replace HO250:=aM (Kd.R_below (zr HO250.out) hb);replace HO257:=aM (Kd.S_below (by (with_reducible repeat (first|apply Kd.S_alloc|apply Kd.S_drewN|apply Kd.S_drew));exact HO257.out) hb);replace HO260:=aM (Kd.R_below (zr HO260.out) hb);replace HO267:=aM (Kd.S_below (by (with_reducible repeat (first|apply Kd.S_alloc|apply Kd.S_drewN|apply Kd.S_drew));exact HO267.out) hb);replace HO271:=aM (Kd.R_below (zr HO271.out) hb);have HO275:=aM (Kd.R_lower (Kd.R_new' (Kd.R_new' ho0 (Kd.R_lt (zr HO253.out))) (Kd.R_lt (zr HO263.out))) (below_size (zb HB.out)));replace HO253:=aM (Kd.R_elder' (zr HO253.out) (Kd.R_base ho0) hb);replace HO263:=aM (Kd.R_elder' (zr HO263.out) (Kd.R_base ho0) hb);replace HB:=aM (below_step (zb HB.out) hb);(try clear hb);(try clear hb2);(try clear hk);(try clear hi);(try clear ho0);obtain ⟨Ao81,co81,eo81⟩:=Kd.R_slice HO275.out;subst eo81)|((with_reducible refine gate_callee (f:=33) rfl ?_);refine gm (some 59) Try.func33 #[.slice Ao74 t261.length co74,.slice Ao81 t273.length co81] ?_;(with_reducible refine (laws_eqRatioS.calls k _ _ t261 _ _ t273 false _ ?side1 ?side2 ?side3 ?side4 A39.out).mono ?_);(case side1=>exact zc (Kd.R_reads' HO263.out).2.2);(case side2=>exact (Kd.R_reads' HO263.out).2.1);(case side3=>exact zc (Kd.R_reads' HO275.out).2.2);(case side4=>exact (Kd.R_reads' HO275.out).2.1);rintro e w82 ⟨rfl,hb⟩;refine ⟨_,rfl,?_⟩;replace HO247:=aM (Kd.S_below (by (with_reducible repeat (first|apply Kd.S_alloc|apply Kd.S_drewN|apply Kd.S_drew));exact HO247.out) hb);replace HO250:=aM (Kd.R_below (zr HO250.out) hb);replace HO253:=aM (Kd.R_below (zr HO253.out) hb);replace HO257:=aM (Kd.S_below (by (with_reducible repeat (first|apply Kd.S_alloc|apply Kd.S_drewN|apply Kd.S_drew));exact HO257.out) hb);replace HO260:=aM (Kd.R_below (zr HO260.out) hb);replace HO263:=aM (Kd.R_below (zr HO263.out) hb);replace HO267:=aM (Kd.S_below (by (with_reducible repeat (first|apply Kd.S_alloc|apply Kd.S_drewN|apply Kd.S_drew));exact HO267.out) hb);replace HO271:=aM (Kd.R_below (zr HO271.out) hb);replace HO275:=aM (Kd.R_below (zr HO275.out) hb);replace HB:=aM (below_step (zb HB.out) hb);(try clear hb);(try clear hb2);(try clear hk);(try clear hi)));go_ret;exact ⟨by first|rfl|(simp [errW_none,errW_some]<;>rfl)|(simp [*,errW_none,errW_some]<;>rfl),zb HB.out⟩
      ·replace c37:=Bool.eq_false_iff.mpr c37;subst c37;replace H:=ifF H;obtain rfl:=Option.some.inj H;go_enter Try.func8,Try.ntmps8;go_wp2_with (first|((with_reducible refine gate_callee (f:=15) rfl ?_);refine gm (some 18) Try.func15 #[.slice A0 l0.length c0,.int .i64 1048576] ?_;(with_reducible refine (laws_szIntSS.calls k _ _ l0 1048576 t243 _ ?side1 ?side2 A5.out).mono ?_);(case side1=>exact zc HR0.out);(case side2=>exact HC0.out);rintro e w' ⟨rfl,⟨nd,rfl⟩⟩;refine ⟨_,rfl,?_⟩)|((with_reducible refine gate_callee (f:=45) rfl ?_);refine gm (some 23) Try.func45 #[.slice A2 l2.length c2,.int .i64 t243] ?_;(with_reducible refine (laws_szRatioS.calls _ _ l2 t243 t244 _ ?side1 ?side2 A7.out).mono ?_);(case side1=>exact zc HR2.out);(case side2=>exact HC2.out);rintro e w' ⟨rfl,⟨nd,rfl⟩⟩;refine ⟨_,rfl,?_⟩)|((with_reducible refine gate_callee (f:=17) rfl ?_);refine gm (some 27) Try.func17 #[.slice A0 l0.length c0] ?_;(with_reducible refine (laws_toIntSS.calls k _ _ l0 t245 _ ?side1 ?side2 A9.out).mono ?_);(case side1=>exact zc HR0.out);(case side2=>exact HC0.out);rintro e w83 ⟨v246,rfl,ho0,hb⟩;refine ⟨_,rfl,?_⟩;have HO247:=aM (Kd.S_lower ho0 (below_size (zb HB.out)));replace HB:=aM (below_step (zb HB.out) hb);(try clear hb);(try clear hb2);(try clear hk);(try clear hi);(try clear ho0))|((with_reducible refine gate_callee (f:=18) rfl ?_);refine gm (some 29) Try.func18 #[.slice A1 l1.length c1] ?_;(with_reducible refine (laws_toIntS.calls k _ _ l1 t248 _ ?side1 ?side2 A10.out).mono ?_);(case side1=>exact zc (Kd.C_below HR1.out HB.out));(case side2=>exact HC1.out);rintro e w84 ⟨v249,rfl,ho0,hb⟩;refine ⟨_,rfl,?_⟩;replace HO247:=aM (Kd.S_elder' (by (with_reducible repeat (first|apply Kd.S_alloc|apply Kd.S_drewN|apply Kd.S_drew));exact HO247.out) (Kd.R_base ho0) hb);have HO250:=aM (Kd.R_lower ho0 (below_size (zb HB.out)));replace HB:=aM (below_step (zb HB.out) hb);(try clear hb);(try clear hb2);(try clear hk);(try clear hi);(try clear ho0))|((with_reducible refine gate_callee (f:=47) rfl ?_);refine gm (some 31) Try.func47 #[.slice A2 l2.length c2] ?_;(with_reducible refine (laws_toRatioS.calls k _ _ l2 t251 _ ?side1 ?side2 A11.out).mono ?_);(case side1=>exact zc (Kd.C_below HR2.out HB.out));(case side2=>exact HC2.out);rintro e w85 ⟨v252,rfl,ho0,hb⟩;refine ⟨_,rfl,?_⟩;replace HO247:=aM (Kd.S_below (by (with_reducible repeat (first|apply Kd.S_alloc|apply Kd.S_drewN|apply Kd.S_drew));exact HO247.out) hb);replace HO250:=aM (Kd.R_below (zr HO250.out) hb);have HO253:=aM (Kd.R_lower ho0 (below_size (zb HB.out)));replace HB:=aM (below_step (zb HB.out) hb);(try clear hb);(try clear hb2);(try clear hk);(try clear hi);(try clear ho0);obtain ⟨Ao86,co86,eo86⟩:=Kd.S_slice HO247.out;subst eo86;obtain ⟨Ao87,co87,eo87⟩:=Kd.R_slice HO250.out;subst eo87;obtain ⟨Ao88,co88,eo88⟩:=Kd.R_slice HO253.out;subst eo88)|((with_reducible refine gate_callee (f:=46) rfl ?_);refine gm (some 32) Try.func46 #[.slice Ao86 t245.length co86,.slice Ao87 t248.length co87,.slice Ao88 t251.length co88] ?_;(with_reducible refine (spec_FitsSystem.calls k _ _ t245 _ _ t248 _ _ t251 t254 _ ?side1 ?side2 ?side3 ?side4 ?side5 ?side6 A12.out).mono ?_);(case side1=>exact zc (Kd.S_reads' HO247.out).2.2);(case side2=>exact (Kd.S_reads' HO247.out).2.1);(case side3=>exact zc (Kd.R_reads' HO250.out).2.2);(case side4=>exact (Kd.R_reads' HO250.out).2.1);(case side5=>exact zc (Kd.R_reads' HO253.out).2.2);(case side6=>exact (Kd.R_reads' HO253.out).2.1);rintro e w89 ⟨rfl,hb⟩;refine ⟨_,rfl,?_⟩;replace HO247:=aM (Kd.S_below (by (with_reducible repeat (first|apply Kd.S_alloc|apply Kd.S_drewN|apply Kd.S_drew));exact HO247.out) hb);replace HO250:=aM (Kd.R_below (zr HO250.out) hb);replace HO253:=aM (Kd.R_below (zr HO253.out) hb);replace HB:=aM (below_step (zb HB.out) hb);(try clear hb);(try clear hb2);(try clear hk);(try clear hi))|((with_reducible refine gate_callee (f:=17) rfl ?_);refine gm (some 34) Try.func17 #[.slice A0 l0.length c0] ?_;(with_reducible refine (laws_toIntSS.calls k _ _ l0 t255 _ ?side1 ?side2 A13.out).mono ?_);(case side1=>exact zc (Kd.C_below HR0.out HB.out));(case side2=>exact HC0.out);rintro e w90 ⟨v256,rfl,ho0,hb⟩;refine ⟨_,rfl,?_⟩;replace HO253:=aM (Kd.R_below (zr HO253.out) hb);have HO257:=aM (Kd.S_lower (Kd.S_new' (Kd.S_new' ho0 (Kd.S_lt (by (with_reducible repeat (first|apply Kd.S_alloc|apply Kd.S_drewN|apply Kd.S_drew));exact HO247.out))) (Kd.R_lt (zr HO250.out))) (below_size (zb HB.out)));replace HO247:=aM (Kd.S_elder' (by (with_reducible repeat (first|apply Kd.S_alloc|apply Kd.S_drewN|apply Kd.S_drew));exact HO247.out) (Kd.S_base ho0) hb);replace HO250:=aM (Kd.R_below (zr HO250.out) hb);replace HB:=aM (below_step (zb HB.out) hb);(try clear hb);(try clear hb2);(try clear hk);(try clear hi);(try clear ho0))|((with_reducible refine gate_callee (f:=18) rfl ?_);refine gm (some 36) Try.func18 #[.slice A1 l1.length c1] ?_;(with_reducible refine (laws_toIntS.calls k _ _ l1 t258 _ ?side1 ?side2 A14.out).mono ?_);(case side1=>exact zc (Kd.C_below HR1.out HB.out));(case side2=>exact HC1.out);rintro e w91 ⟨v259,rfl,ho0,hb⟩;refine ⟨_,rfl,?_⟩;replace HO247:=aM (Kd.S_elder' (by (with_reducible repeat (first|apply Kd.S_alloc|apply Kd.S_drewN|apply Kd.S_drew));exact HO247.out) (Kd.R_base ho0) hb);replace HO253:=aM (Kd.R_below (zr HO253.out) hb);replace HO257:=aM (Kd.S_elder' (by (with_reducible repeat (first|apply Kd.S_alloc|apply Kd.S_drewN|apply Kd.S_drew));exact HO257.out) (Kd.R_base ho0) hb);have HO260:=aM (Kd.R_lower (Kd.R_new' ho0 (Kd.R_lt (zr HO250.out))) (below_size (zb HB.out)));replace HO250:=aM (Kd.R_elder' (zr HO250.out) (Kd.R_base ho0) hb);replace HB:=aM (below_step (zb HB.out) hb);(try clear hb);(try clear hb2);(try clear hk);(try clear hi);(try clear ho0))|((with_reducible refine gate_callee (f:=47) rfl ?_);refine gm (some 38) Try.func47 #[.slice A2 l2.length c2] ?_;(with_reducible refine (laws_toRatioS.calls k _ _ l2 t261 _ ?side1 ?side2 A15.out).mono ?_);(case side1=>exact zc (Kd.C_below HR2.out HB.out));(case side2=>exact HC2.out);rintro e w92 ⟨v262,rfl,ho0,hb⟩;refine ⟨_,rfl,?_⟩;replace HO247:=aM (Kd.S_below (by (with_reducible repeat (first|apply Kd.S_alloc|apply Kd.S_drewN|apply Kd.S_drew));exact HO247.out) hb);replace HO250:=aM (Kd.R_below (zr HO250.out) hb);replace HO257:=aM (Kd.S_below (by (with_reducible repeat (first|apply Kd.S_alloc|apply Kd.S_drewN|apply Kd.S_drew));exact HO257.out) hb);replace HO260:=aM (Kd.R_below (zr HO260.out) hb);have HO263:=aM (Kd.R_lower (Kd.R_new' ho0 (Kd.R_lt (zr HO253.out))) (below_size (zb HB.out)));replace HO253:=aM (Kd.R_elder' (zr HO253.out) (Kd.R_base ho0) hb);replace HB:=aM (below_step (zb HB.out) hb);(try clear hb);(try clear hb2);(try clear hk);(try clear hi);(try clear ho0);obtain ⟨Ao93,co93,eo93⟩:=Kd.S_slice HO257.out;subst eo93;obtain ⟨Ao94,co94,eo94⟩:=Kd.R_slice HO260.out;subst eo94;obtain ⟨Ao95,co95,eo95⟩:=Kd.R_slice HO263.out;subst eo95)|((with_reducible refine gate_callee (f:=28) rfl ?_);refine gm (some 42) Try.func28 #[.slice Ao93 t255.length co93,.slice Ao94 t258.length co94,.slice Ao95 t261.length co95] ?_;(with_reducible refine (impl_FitsSystem.calls k _ _ t255 _ _ t258 _ _ t261 t264 _ ?side1 ?side2 ?side3 ?side4 ?side5 ?side6 A16.out).mono ?_);(case side1=>exact zc (Kd.S_reads' HO257.out).2.2);(case side2=>exact (Kd.S_reads' HO257.out).2.1);(case side3=>exact zc (Kd.R_reads' HO260.out).2.2);(case side4=>exact (Kd.R_reads' HO260.out).2.1);(case side5=>exact zc (Kd.R_reads' HO263.out).2.2);(case side6=>exact (Kd.R_reads' HO263.out).2.1);rintro e w96 ⟨rfl,hb⟩;refine ⟨_,rfl,?_⟩;replace HO247:=aM (Kd.S_below (by (with_reducible repeat (first|apply Kd.S_alloc|apply Kd.S_drewN|apply Kd.S_drew));exact HO247.out) hb);replace HO250:=aM (Kd.R_below (zr HO250.out) hb);replace HO253:=aM (Kd.R_below (zr HO253.out) hb);replace HO257:=aM (Kd.S_below (by (with_reducible repeat (first|apply Kd.S_alloc|apply Kd.S_drewN|apply Kd.S_drew));exact HO257.out) hb);replace HO260:=aM (Kd.R_below (zr HO260.out) hb);replace HO263:=aM (Kd.R_below (zr HO263.out) hb);replace HB:=aM (below_step (zb HB.out) hb);(try clear hb);(try clear hb2);(try clear hk);(try clear hi))|((with_reducible refine gate_callee (f:=17) rfl ?_);refine gm (some 48) Try.func17 #[.slice A0 l0.length c0] ?_;(with_reducible refine (laws_toIntSS.calls k _ _ l0 t265 _ ?side1 ?side2 A32.out).mono ?_);(case side1=>exact zc (Kd.C_below HR0.out HB.out));(case side2=>exact HC0.out);rintro e w97 ⟨v266,rfl,ho0,hb⟩;refine ⟨_,rfl,?_⟩;replace HO253:=aM (Kd.R_below (zr HO253.out) hb);replace HO263:=aM (Kd.R_below (zr HO263.out) hb);have HO267:=aM (Kd.S_lower (Kd.S_new' (Kd.S_new' (Kd.S_new' (Kd.S_new' ho0 (Kd.S_lt (by (with_reducible repeat (first|apply Kd.S_alloc|apply Kd.S_drewN|apply Kd.S_drew));exact HO247.out))) (Kd.R_lt (zr HO250.out))) (Kd.S_lt (by (with_reducible repeat (first|apply Kd.S_alloc|apply Kd.S_drewN|apply Kd.S_drew));exact HO257.out))) (Kd.R_lt (zr HO260.out))) (below_size (zb HB.out)));replace HO247:=aM (Kd.S_elder' (by (with_reducible repeat (first|apply Kd.S_alloc|apply Kd.S_drewN|apply Kd.S_drew));exact HO247.out) (Kd.S_base ho0) hb);replace HO250:=aM (Kd.R_below (zr HO250.out) hb);replace HO257:=aM (Kd.S_elder' (by (with_reducible repeat (first|apply Kd.S_alloc|apply Kd.S_drewN|apply Kd.S_drew));exact HO257.out) (Kd.S_base ho0) hb);replace HO260:=aM (Kd.R_below (zr HO260.out) hb);replace HB:=aM (below_step (zb HB.out) hb);(try clear hb);(try clear hb2);(try clear hk);(try clear hi);(try clear ho0);obtain ⟨Ao98,co98,eo98⟩:=Kd.S_slice HO267.out;subst eo98)|((with_reducible refine gate_callee (f:=21) rfl ?_);refine gm (some 49) Try.func21 #[.slice Ao93 t255.length co93,.slice Ao98 t265.length co98] ?_;(with_reducible refine (laws_eqIntSS.calls k _ _ t255 _ _ t265 true _ ?side1 ?side2 ?side3 ?side4 A33.out).mono ?_);(case side1=>exact zc (Kd.S_reads' HO257.out).2.2);(case side2=>exact (Kd.S_reads' HO257.out).2.1);(case side3=>exact zc (Kd.S_reads' HO267.out).2.2);(case side4=>exact (Kd.S_reads' HO267.out).2.1);rintro e w' ⟨rfl,⟨nd,rfl⟩⟩;refine ⟨_,rfl,?_⟩)|((with_reducible refine gate_callee (f:=18) rfl ?_);refine gm (some 53) Try.func18 #[.slice A1 l1.length c1] ?_;(with_reducible refine (laws_toIntS.calls k _ _ l1 t269 _ ?side1 ?side2 A35.out).mono ?_);(case side1=>repeat (first|exact (Kd.C_below HR1.out (zb HB.out))|(with_reducible refine Kd.C_alloc ?_ _)|(with_reducible refine Kd.C_drewN ?_ _)|(with_reducible refine Kd.C_drew ?_)));(case side2=>exact HC1.out);rintro e w99 ⟨v270,rfl,ho0,hb⟩;refine ⟨_,rfl,?_⟩;replace HO247:=aM (Kd.S_elder' (by (with_reducible repeat (first|apply Kd.S_alloc|apply Kd.S_drewN|apply Kd.S_drew));exact HO247.out) (Kd.R_base ho0) hb);replace HO253:=aM (Kd.R_below (zr HO253.out) hb);replace HO257:=aM (Kd.S_elder' (by (with_reducible repeat (first|apply Kd.S_alloc|apply Kd.S_drewN|apply Kd.S_drew));exact HO257.out) (Kd.R_base ho0) hb);replace HO263:=aM (Kd.R_below (zr HO263.out) hb);replace HO267:=aM (Kd.S_elder' (by (with_reducible repeat (first|apply Kd.S_alloc|apply Kd.S_drewN|apply Kd.S_drew));exact HO267.out) (Kd.R_base ho0) hb);have HO271:=aM (Kd.R_lower (Kd.R_new' (Kd.R_new' ho0 (Kd.R_lt (zr HO250.out))) (Kd.R_lt (zr HO260.out))) (below_size (zb HB.out)));replace HO250:=aM (Kd.R_elder' (zr HO250.out) (Kd.R_base ho0) hb);replace HO260:=aM (Kd.R_elder' (zr HO260.out) (Kd.R_base ho0) hb);replace HB:=aM (below_step (zb HB.out) hb);(try clear hb);(try clear hb2);(try clear hk);(try clear hi);(try clear ho0);obtain ⟨Ao100,co100,eo100⟩:=Kd.R_slice HO271.out;subst eo100)|((with_reducible refine gate_callee (f:=22) rfl ?_);refine gm (some 54) Try.func22 #[.slice Ao94 t258.length co94,.slice Ao100 t269.length co100] ?_;(with_reducible refine (laws_eqIntS.calls k _ _ t258 _ _ t269 false _ ?side1 ?side2 ?side3 ?side4 A36.out).mono ?_);(case side1=>exact zc (Kd.R_reads' HO260.out).2.2);(case side2=>exact (Kd.R_reads' HO260.out).2.1);(case side3=>exact zc (Kd.R_reads' HO271.out).2.2);(case side4=>exact (Kd.R_reads' HO271.out).2.1);rintro e w' ⟨rfl,⟨nd,rfl⟩⟩;refine ⟨_,rfl,?_⟩));go_ret;exact ⟨by first|rfl|(simp [errW_none,errW_some]<;>rfl)|(simp [*,errW_none,errW_some]<;>rfl),zb HB.out⟩
     ·replace c34:=Bool.eq_false_iff.mpr c34;subst c34;replace H:=ifF H;obtain rfl:=Option.some.inj H;go_enter Try.func8,Try.ntmps8;go_wp2_with (first|((with_reducible refine gate_callee (f:=15) rfl ?_);refine gm (some 18) Try.func15 #[.slice A0 l0.length c0,.int .i64 1048576] ?_;(with_reducible refine (laws_szIntSS.calls k _ _ l0 1048576 t243 _ ?side1 ?side2 A5.out).mono ?_);(case side1=>exact zc HR0.out);(case side2=>exact HC0.out);rintro e w' ⟨rfl,⟨nd,rfl⟩⟩;refine ⟨_,rfl,?_⟩)|((with_reducible refine gate_callee (f:=45) rfl ?_);refine gm (some 23) Try.func45 #[.slice A2 l2.length c2,.int .i64 t243] ?_;(with_reducible refine (laws_szRatioS.calls _ _ l2 t243 t244 _ ?side1 ?side2 A7.out).mono ?_);(case side1=>exact zc HR2.out);(case side2=>exact HC2.out);rintro e w' ⟨rfl,⟨nd,rfl⟩⟩;refine ⟨_,rfl,?_⟩)|((with_reducible refine gate_callee (f:=17) rfl ?_);refine gm (some 27) Try.func17 #[.slice A0 l0.length c0] ?_;(with_reducible refine (laws_toIntSS.calls k _ _ l0 t245 _ ?side1 ?side2 A9.out).mono ?_);(case side1=>exact zc HR0.out);(case side2=>exact HC0.out);rintro e w101 ⟨v246,rfl,ho0,hb⟩;refine ⟨_,rfl,?_⟩;have HO247:=aM (Kd.S_lower ho0 (below_size (zb HB.out)));replace HB:=aM (below_step (zb HB.out) hb);(try clear hb);(try clear hb2);(try clear hk);(try clear hi);(try clear ho0))|((with_reducible refine gate_callee (f:=18) rfl ?_);refine gm (some 29) Try.func18 #[.slice A1 l1.length c1] ?_;(with_reducible refine (laws_toIntS.calls k _ _ l1 t248 _ ?side1 ?side2 A10.out).mono ?_);(case side1=>exact zc (Kd.C_below HR1.out HB.out));(case side2=>exact HC1.out);rintro e w102 ⟨v249,rfl,ho0,hb⟩;refine ⟨_,rfl,?_⟩;replace HO247:=aM (Kd.S_elder' (by (with_reducible repeat (first|apply Kd.S_alloc|apply Kd.S_drewN|apply Kd.S_drew));exact HO247.out) (Kd.R_base ho0) hb);have HO250:=aM (Kd.R_lower ho0 (below_size (zb HB.out)));replace HB:=aM (below_step (zb HB.out) hb);(try clear hb);(try clear hb2);(try clear hk);(try clear hi);(try clear ho0))|((with_reducible refine gate_callee (f:=47) rfl ?_);refine gm (some 31) Try.func47 #[.slice A2 l2.length c2] ?_;(with_reducible refine (laws_toRatioS.calls k _ _ l2 t251 _ ?side1 ?side2 A11.out).mono ?_);(case side1=>exact zc (Kd.C_below HR2.out HB.out));(case side2=>exact HC2.out);rintro e w103 ⟨v252,rfl,ho0,hb⟩;refine ⟨_,rfl,?_⟩;replace HO247:=aM (Kd.S_below (by (with_reducible repeat (first|apply Kd.S_alloc|apply Kd.S_drewN|apply Kd.S_drew));exact HO247.out) hb);replace HO250:=aM (Kd.R_below (zr HO250.out) hb);have HO253:=aM (Kd.R_lower ho0 (below_size (zb HB.out)));replace HB:=aM (below_step (zb HB.out) hb);(try clear hb);(try clear hb2);(try clear hk);(try clear hi);(try clear ho0);obtain ⟨Ao104,co104,eo104⟩:=Kd.S_slice HO247.out;subst eo104;obtain ⟨Ao105,co105,eo105⟩:=Kd.R_slice HO250.out;subst eo105;obtain ⟨Ao106,co106,eo106⟩:=Kd.R_slice HO253.out;subst eo106)|((with_reducible refine gate_callee (f:=46) rfl ?_);refine gm (some 32) Try.func46 #[.slice Ao104 t245.length co104,.slice Ao105 t248.length co105,.slice Ao106 t251.length co106] ?_;(with_reducible refine (spec_FitsSystem.calls k _ _ t245 _ _ t248 _ _ t251 t254 _ ?side1 ?side2 ?side3 ?side4 ?side5 ?side6 A12.out).mono ?_);(case side1=>exact zc (Kd.S_reads' HO247.out).2.2);(case side2=>exact (Kd.S_reads' HO247.out).2.1);(case side3=>exact zc (Kd.R_reads' HO250.out).2.2);(case side4=>exact (Kd.R_reads' HO250.out).2.1);(case side5=>exact zc (Kd.R_reads' HO253.out).2.2);(case side6=>exact (Kd.R_reads' HO253.out).2.1);rintro e w107 ⟨rfl,hb⟩;refine ⟨_,rfl,?_⟩;replace HO247:=aM (Kd.S_below (by (with_reducible repeat (first|apply Kd.S_alloc|apply Kd.S_drewN|apply Kd.S_drew));exact HO247.out) hb);replace HO250:=aM (Kd.R_below (zr HO250.out) hb);replace HO253:=aM (Kd.R_below (zr HO253.out) hb);replace HB:=aM (below_step (zb HB.out) hb);(try clear hb);(try clear hb2);(try clear hk);(try clear hi))|((with_reducible refine gate_callee (f:=17) rfl ?_);refine gm (some 34) Try.func17 #[.slice A0 l0.length c0] ?_;(with_reducible refine (laws_toIntSS.calls k _ _ l0 t255 _ ?side1 ?side2 A13.out).mono ?_);(case side1=>exact zc (Kd.C_below HR0.out HB.out));(case side2=>exact HC0.out);rintro e w108 ⟨v256,rfl,ho0,hb⟩;refine ⟨_,rfl,?_⟩;replace HO253:=aM (Kd.R_below (zr HO253.out) hb);have HO257:=aM (Kd.S_lower (Kd.S_new' (Kd.S_new' ho0 (Kd.S_lt (by (with_reducible repeat (first|apply Kd.S_alloc|apply Kd.S_drewN|apply Kd.S_drew));exact HO247.out))) (Kd.R_lt (zr HO250.out))) (below_size (zb HB.out)));replace HO247:=aM (Kd.S_elder' (by (with_reducible repeat (first|apply Kd.S_alloc|apply Kd.S_drewN|apply Kd.S_drew));exact HO247.out) (Kd.S_base ho0) hb);replace HO250:=aM (Kd.R_below (zr HO250.out) hb);replace HB:=aM (below_step (zb HB.out) hb);(try clear hb);(try clear hb2);(try clear hk);(try clear hi);(try clear ho0))|((with_reducible refine gate_callee (f:=18) rfl ?_);refine gm (some 36) Try.func18 #[.slice A1 l1.length c1] ?_;(with_reducible refine (laws_toIntS.calls k _ _ l1 t258 _ ?side1 ?side2 A14.out).mono ?_);(case side1=>exact zc (Kd.C_below HR1.out HB.out));(case side2=>exact HC1.out);rintro e w109 ⟨v259,rfl,ho0,hb⟩;refine ⟨_,rfl,?_⟩;replace HO247:=aM (Kd.S_elder' (by (with_reducible repeat (first|apply Kd.S_alloc|apply Kd.S_drewN|apply Kd.S_drew));exact HO247.out) (Kd.R_base ho0) hb);replace HO253:=aM (Kd.R_below (zr HO253.out) hb);replace HO257:=aM (Kd.S_elder' (by (with_reducible repeat (first|apply Kd.S_alloc|apply Kd.S_drewN|apply Kd.S_drew));exact HO257.out) (Kd.R_base ho0) hb);have HO260:=aM (Kd.R_lower (Kd.R_new' ho0 (Kd.R_lt (zr HO250.out))) (below_size (zb HB.out)));replace HO250:=aM (Kd.R_elder' (zr HO250.out) (Kd.R_base ho0) hb);replace HB:=aM (below_step (zb HB.out) hb);(try clear hb);(try clear hb2);(try clear hk);(try clear hi);(try clear ho0))|((with_reducible refine gate_callee (f:=47) rfl ?_);refine gm (some 38) Try.func47 #[.slice A2 l2.length c2] ?_;(with_reducible refine (laws_toRatioS.calls k _ _ l2 t261 _ ?side1 ?side2 A15.out).mono ?_);(case side1=>exact zc (Kd.C_below HR2.out HB.out));(case side2=>exact HC2.out);rintro e w110 ⟨v262,rfl,ho0,hb⟩;refine ⟨_,rfl,?_⟩;replace HO247:=aM (Kd.S_below (by (with_reducible repeat (first|apply Kd.S_alloc|apply Kd.S_drewN|apply Kd.S_drew));exact HO247.out) hb);replace HO250:=aM (Kd.R_below (zr HO250.out) hb);replace HO257:=aM (Kd.S_below (by (with_reducible repeat (first|apply Kd.S_alloc|apply Kd.S_drewN|apply Kd.S_drew));exact HO257.out) hb);replace HO260:=aM (Kd.R_below (zr HO260.out) hb);have HO263:=aM (Kd.R_lower (Kd.R_new' ho0 (Kd.R_lt (zr HO253.out))) (below_size (zb HB.out)));replace HO253:=aM (Kd.R_elder' (zr HO253.out) (Kd.R_base ho0) hb);replace HB:=aM (below_step (zb HB.out) hb);(try clear hb);(try clear hb2);(try clear hk);(try clear hi);(try clear ho0);obtain ⟨Ao111,co111,eo111⟩:=Kd.S_slice HO257.out;subst eo111;obtain ⟨Ao112,co112,eo112⟩:=Kd.R_slice HO260.out;subst eo112;obtain ⟨Ao113,co113,eo113⟩:=Kd.R_slice HO263.out;subst eo113)|((with_reducible refine gate_callee (f:=28) rfl ?_);refine gm (some 42) Try.func28 #[.slice Ao111 t255.length co111,.slice Ao112 t258.length co112,.slice Ao113 t261.length co113] ?_;(with_reducible refine (impl_FitsSystem.calls k _ _ t255 _ _ t258 _ _ t261 t264 _ ?side1 ?side2 ?side3 ?side4 ?side5 ?side6 A16.out).mono ?_);(case side1=>exact zc (Kd.S_reads' HO257.out).2.2);(case side2=>exact (Kd.S_reads' HO257.out).2.1);(case side3=>exact zc (Kd.R_reads' HO260.out).2.2);(case side4=>exact (Kd.R_reads' HO260.out).2.1);(case side5=>exact zc (Kd.R_reads' HO263.out).2.2);(case side6=>exact (Kd.R_reads' HO263.out).2.1);rintro e w114 ⟨rfl,hb⟩;refine ⟨_,rfl,?_⟩;replace HO247:=aM (Kd.S_below (by (with_reducible repeat (first|apply Kd.S_alloc|apply Kd.S_drewN|apply Kd.S_drew));exact HO247.out) hb);replace HO250:=aM (Kd.R_below (zr HO250.out) hb);replace HO253:=aM (Kd.R_below (zr HO253.out) hb);replace HO257:=aM (Kd.S_below (by (with_reducible repeat (first|apply Kd.S_alloc|apply Kd.S_drewN|apply Kd.S_drew));exact HO257.out) hb);replace HO260:=aM (Kd.R_below (zr HO260.out) hb);replace HO263:=aM (Kd.R_below (zr HO263.out) hb);replace HB:=aM (below_step (zb HB.out) hb);(try clear hb);(try clear hb2);(try clear hk);(try clear hi))|((with_reducible refine gate_callee (f:=17) rfl ?_);refine gm (some 48) Try.func17 #[.slice A0 l0.length c0] ?_;(with_reducible refine (laws_toIntSS.calls k _ _ l0 t265 _ ?side1 ?side2 A32.out).mono ?_);(case side1=>exact zc (Kd.C_below HR0.out HB.out));(case side2=>exact HC0.out);rintro e w115 ⟨v266,rfl,ho0,hb⟩;refine ⟨_,rfl,?_⟩;replace HO253:=aM (Kd.R_below (zr HO253.out) hb);replace HO263:=aM (Kd.R_below (zr HO263.out) hb);have HO267:=aM (Kd.S_lower (Kd.S_new' (Kd.S_new' (Kd.S_new' (Kd.S_new' ho0 (Kd.S_lt (by (with_reducible repeat (first|apply Kd.S_alloc|apply Kd.S_drewN|apply Kd.S_drew));exact HO247.out))) (Kd.R_lt (zr HO250.out))) (Kd.S_lt (by (with_reducible repeat (first|apply Kd.S_alloc|apply Kd.S_drewN|apply Kd.S_drew));exact HO257.out))) (Kd.R_lt (zr HO260.out))) (below_size (zb HB.out)));replace HO247:=aM (Kd.S_elder' (by (with_reducible repeat (first|apply Kd.S_alloc|apply Kd.S_drewN|apply Kd.S_drew));exact HO247.out) (Kd.S_base ho0) hb);replace HO250:=aM (Kd.R_below (zr HO250.out) hb);replace HO257:=aM (Kd.S_elder' (by (with_reducible repeat (first|apply Kd.S_alloc|apply Kd.S_drewN|apply Kd.S_drew));exact HO257.out) (Kd.S_base ho0) hb);replace HO260:=aM (Kd.R_below (zr HO260.out) hb);replace HB:=aM (below_step (zb HB.out) hb);(try clear hb);(try clear hb2);(try clear hk);(try clear hi);(try clear ho0);obtain ⟨Ao116,co116,eo116⟩:=Kd.S_slice HO267.out;subst eo116)|((with_reducible refine gate_callee (f:=21) rfl ?_);refine gm (some 49) Try.func21 #[.slice Ao111 t255.length co111,.slice Ao116 t265.length co116] ?_;(with_reducible refine (laws_eqIntSS.calls k _ _ t255 _ _ t265 false _ ?side1 ?side2 ?side3 ?side4 A33.out).mono ?_);(case side1=>exact zc (Kd.S_reads' HO257.out).2.2);(case side2=>exact (Kd.S_reads' HO257.out).2.1);(case side3=>exact zc (Kd.S_reads' HO267.out).2.2);(case side4=>exact (Kd.S_reads' HO267.out).2.1);rintro e w' ⟨rfl,⟨nd,rfl⟩⟩;refine ⟨_,rfl,?_⟩));go_ret;exact ⟨by first|rfl|(simp [errW_none,errW_some]<;>rfl)|(simp [*,errW_none,errW_some]<;>rfl),zb HB.out⟩
end Go.Proofs.Ytojkepidkmkmpaa.PFnExactFitsSystem
end
section
set_option linter.unusedSimpArgs false
set_option linter.unusedVariables false
namespace Go.Proofs.Ytojkepidkmkmpaa.Pure
open Go.RowKit Go.Proofs.Ytojkepidkmkmpaa.PFnExactFitsSystem Go.Proofs.YtojkepidkmkmpaaW.PrintWords Go.Proofs.YtojkepidkmkmpaaW.PrintLast Go.Proofs.YtojkepidkmkmpaaW.PrintMore
theorem wrap_id {x : Int} (h1 : -9223372036854775808 ≤ x) (h2 : x < 9223372036854775808) : wrap64 x = x := by unfold wrap64; omega
theorem rd_nat (l : List Int) (i : Nat) (h : i < l.length) : rd l (i : Int) = l[i] := by
 unfold rd; rw [Int.toNat_natCast, List.getD_eq_getElem?_getD, List.getElem?_eq_getElem h]; rfl
theorem set_take (l x : List Int) (i : Nat) (h : i < l.length) (hx : x.length = l.length) (ht : x.take i = l.take i) : (x.set i l[i]).take (i + 1) = l.take (i + 1) := by
 apply List.ext_getElem?
 intro j
 simp only [List.getElem?_take, List.getElem?_set]
 have hj : (x.take i)[j]? = (l.take i)[j]? := by rw [ht]
 simp only [List.getElem?_take] at hj
 by_cases h1 : j < i + 1
 ·rw [if_pos h1, if_pos h1]
  by_cases h2 : i = j
  ·subst h2; rw [if_pos rfl, if_pos (by omega), List.getElem?_eq_getElem h]
  ·rw [if_neg h2]; rw [if_pos (by omega), if_pos (by omega)] at hj; exact hj
 ·rw [if_neg h1, if_neg h1]
theorem drop_eq_cons (l : List Int) (i : Nat) (h : i < l.length) : l.drop i = l[i] :: l.drop (i + 1) := List.drop_eq_getElem_cons h
theorem cons_iff {a b : Int} (e : a = b) (l x : List Int) : (a :: l = b :: x) ↔ l = x := by
 rw [e]
 exact ⟨fun h => (List.cons.inj h).2, fun h => by rw [h]⟩
theorem take_full (l x : List Int) (i : Nat) (hi : l.length ≤ i) (hx : x.length = l.length) (ht : x.take i = l.take i) : x = l := by
 rwa [List.take_of_length_le (by omega), List.take_of_length_le hi] at ht
theorem toIntS_l0 (l : List Int) (hl : l.length ≤ 1048576) (d : Nat) : ∀ (i : Nat) (x : List Int), l.length - i = d → i ≤ l.length → x.length = l.length → x.take i = l.take i → Ev (fun k => laws_toIntS.l0 k l x (i : Int)) l := by
 induction d with
|zero =>
  intro i x hd hi hx ht
  obtain rfl := take_full l x i (by omega) hx ht
  refine Ev.step (f := fun _ => some x) (fun k => ?_) (Ev.now x)
  simp only [laws_toIntS.l0]
  rw [if_neg (by omega)]
|succ d ih =>
  intro i x hd hi hx ht
  have h : i < l.length := by omega
  refine Ev.step (f := fun k => laws_toIntS.l0 k l (x.set i l[i]) ((i + 1 : Nat) : Int)) (fun k => ?_) (ih (i + 1) _ (by omega) (by omega) (by simpa using hx) (set_take l x i h hx ht))
  simp only [laws_toIntS.l0]
  rw [if_pos (by omega), if_pos (by omega), if_pos (by omega), rd_nat l i h, wrap_id (by omega) (by omega), Int.toNat_natCast]
  rfl
theorem toIntS_ev (l : List Int) (hl : l.length ≤ 1048576) : Ev (fun k => laws_toIntS.f k l) l := by
 refine Ev.congr (f := fun k => laws_toIntS.l0 k l (List.replicate l.length 0) ((0 : Nat) : Int)) (fun k => ?_) (toIntS_l0 l hl l.length 0 _ (by omega) (by omega) (by simp) (by simp))
 unfold laws_toIntS.f
 rw [if_pos (by omega), Int.toNat_natCast, if_pos (by omega)]
 rfl
theorem eqIntS_l0 (l x : List Int) (hl : l.length ≤ 16777216) (hx : x.length = l.length) (d : Nat) : ∀ (i : Nat), l.length - i = d → i ≤ l.length → Ev (fun k => laws_eqIntS.l0 k l x (i : Int)) (decide (l.drop i = x.drop i)) := by
 induction d with
|zero =>
  intro i hd hi
  rw [List.drop_eq_nil_of_le (by omega), List.drop_eq_nil_of_le (by omega), decide_eq_true rfl]
  refine Ev.step (f := fun _ => some true) (fun k => ?_) (Ev.now true)
  simp only [laws_eqIntS.l0]
  rw [if_neg (by omega)]
|succ d ih =>
  intro i hd hi
  have h : i < l.length := by omega
  have h' : i < x.length := by omega
  rw [drop_eq_cons l i h, drop_eq_cons x i h']
  by_cases e : l[i] = x[i]
  ·rw [decide_eq_decide.2 (cons_iff e _ _)]
   refine Ev.step (f := fun k => laws_eqIntS.l0 k l x ((i + 1 : Nat) : Int)) (fun k => ?_) (ih (i + 1) (by omega) (by omega))
   simp only [laws_eqIntS.l0]
   rw [if_pos (by omega), if_pos (by omega), if_pos (by omega), rd_nat l i h, rd_nat x i h', if_pos e, wrap_id (by omega) (by omega)]
   rfl
  ·rw [decide_eq_false fun h => e (List.cons.inj h).1]
   refine Ev.step (f := fun _ => some false) (fun k => ?_) (Ev.now false)
   simp only [laws_eqIntS.l0]
   rw [if_pos (by omega), if_pos (by omega), if_pos (by omega), rd_nat l i h, rd_nat x i h', if_neg e]
theorem eqIntS_ev (l x : List Int) (hl : l.length ≤ 16777216) : Ev (fun k => laws_eqIntS.f k l x) (decide (l = x)) := by
 by_cases e : l.length = x.length
 ·refine Ev.congr (f := fun k => laws_eqIntS.l0 k l x ((0 : Nat) : Int)) (fun k => ?_) (by simpa using eqIntS_l0 l x hl e.symm l.length 0 (by omega) (by omega))
  unfold laws_eqIntS.f
  rw [if_pos (by omega)]
  rfl
 ·rw [decide_eq_false (fun h => e (by rw [h]))]
  refine Ev.congr (f := fun _ => some false) (fun k => ?_) (Ev.now false)
  unfold laws_eqIntS.f
  rw [if_neg (by omega)]
theorem eqIntS_self (l : List Int) (hl : l.length ≤ 16777216) : Ev (fun k => laws_eqIntS.f k l l) true := by
 simpa using eqIntS_ev l l hl
theorem l1In_eq (a b c : Int) : spec_l1In.f a b c = some (decide (b ≤ a ∧ a ≤ c)) := by
 unfold spec_l1In.f
 by_cases h : a ≥ b
 ·rw [if_pos h]; congr 1; by_cases h2 : a ≤ c <;> simp [h2] <;> omega
 ·rw [if_neg h]; congr 1; simp; omega
theorem InRange_eq (a b c : Int) : impl_InRange.f a b c = some (decide (b ≤ a ∧ a ≤ c)) := by
 unfold impl_InRange.f
 by_cases h : b ≤ a
 ·rw [if_pos h]; congr 1; by_cases h2 : a ≤ c <;> simp [h2] <;> omega
 ·rw [if_neg h]; congr 1; simp; omega
theorem rdL_nat (l : List (List Int)) (i : Nat) (h : i < l.length) : rd_L1 l (i : Int) = l[i] := by
 unfold rd_L1
 rw [Int.toNat_natCast, List.getD_eq_getElem?_getD, List.getElem?_eq_getElem h]; rfl
theorem drop_consL (l : List (List Int)) (i : Nat) (h : i < l.length) : l.drop i = l[i] :: l.drop (i + 1) := List.drop_eq_getElem_cons h
def sumLen : List (List Int) → Nat
 | [] => 0
 | r :: l => r.length + sumLen l
theorem len_le_sum (l : List (List Int)) : ∀ r ∈ l, r.length ≤ sumLen l := by
 induction l with
 | nil => intro r h; cases h
 | cons a l ih =>
  intro r h
  simp only [sumLen]
  rcases List.mem_cons.1 h with rfl | h
  ·omega
  ·have := ih r h; omega
theorem sz_eq (r : List Int) (a : Int) (hr : r.length ≤ maxLen) (h0 : 0 ≤ a) (h1 : a ≤ 1048576) : laws_szIntS.f r a = some (if a - r.length < 0 then -1 else a - r.length) := by
 unfold laws_szIntS.f
 unfold maxLen at hr
 rw [wrap_id (by omega) (by omega)]
 split <;> rfl
theorem szSS_l0 (l : List (List Int)) (hm : ∀ r ∈ l, r.length ≤ maxLen) (hl : l.length ≤ 1048576) (d : Nat) : ∀ (i : Nat) (a : Int), l.length - i = d → 0 ≤ a → a ≤ 1048576 → ∃ r, Ev (fun k => laws_szIntSS.l0 k l a (i : Int)) r ∧ (0 ≤ r → r + sumLen (l.drop i) = a) := by
 induction d with
|zero =>
  intro i a hd h0 h1
  refine ⟨a, Ev.step (f := fun _ => some a) (fun k => ?_) (Ev.now a), fun _ => by rw [List.drop_eq_nil_of_le (by omega)];simp [sumLen]⟩
  simp only [laws_szIntSS.l0]
  rw [if_neg (by omega)]
|succ d ih =>
  intro i a hd h0 h1
  have h : i < l.length := by omega
  have hs := sz_eq l[i] a (hm _ (List.getElem_mem h)) h0 h1
  by_cases c : a - l[i].length < 0
  ·rw [if_pos c] at hs
   refine ⟨-1, Ev.step (f := fun _ => some (-1)) (fun k => ?_) (Ev.now (-1)), fun h => by omega⟩
   simp only [laws_szIntSS.l0]
   rw [if_pos (by omega), if_pos (by omega), rdL_nat l i h, hs]
   rfl
  ·rw [if_neg c] at hs
   obtain ⟨r, hr, hr'⟩ := ih (i + 1) (a - l[i].length) (by omega) (by omega) (by omega)
   refine ⟨r, Ev.step (f := fun k => laws_szIntSS.l0 k l (a - l[i].length) ((i + 1 : Nat) : Int)) (fun k => ?_) hr, fun h0 => ?_⟩
   ·simp only [laws_szIntSS.l0]
    rw [if_pos (by omega), if_pos (by omega), rdL_nat l i h, hs]
    simp only [Option.bind_some]
    rw [if_neg (by omega), wrap_id (by omega) (by omega)]
    rfl
   ·have := hr' h0
    rw [drop_consL l i h]
    simp only [sumLen]
    omega
theorem szSS_ev (l : List (List Int)) (hlm : l.length ≤ maxLen) (hm : ∀ r ∈ l, r.length ≤ maxLen) : ∃ r, Ev (fun k => laws_szIntSS.f k l 1048576) r ∧ (0 ≤ r → r + (l.length : Int) + (sumLen l : Int) = 1048576) := by
 unfold laws_szIntSS.f
 have hw : wrap64 (1048576 - (l.length : Int)) = 1048576 - (l.length : Int) := by
  unfold maxLen at hlm
  exact wrap_id (by omega) (by omega)
 by_cases c : 1048576 - (l.length : Int) < 0
 ·refine ⟨-1, ?_, fun h => by omega⟩
  simp only [hw, if_pos c]
  exact Ev.now _
 ·obtain ⟨r, hr, hr'⟩ := szSS_l0 l hm (by omega) l.length 0 (1048576 - (l.length : Int)) (by omega) (by omega) (by omega)
  refine ⟨r, ?_, fun h => by have := hr' h;simp at this;omega⟩
  simp only [hw, if_neg c]
  exact hr
theorem set_takeL (l x : List (List Int)) (i : Nat) (h : i < l.length) (hx : x.length = l.length) (ht : x.take i = l.take i) : (x.set i l[i]).take (i + 1) = l.take (i + 1) := by
 apply List.ext_getElem?
 intro j
 simp only [List.getElem?_take, List.getElem?_set]
 have hj : (x.take i)[j]? = (l.take i)[j]? := by rw [ht]
 simp only [List.getElem?_take] at hj
 by_cases h1 : j < i + 1
 ·rw [if_pos h1, if_pos h1]
  by_cases h2 : i = j
  ·subst h2; rw [if_pos rfl, if_pos (by omega), List.getElem?_eq_getElem h]
  ·rw [if_neg h2]; rw [if_pos (by omega), if_pos (by omega)] at hj; exact hj
 ·rw [if_neg h1, if_neg h1]
theorem toIntSS_l0 (l : List (List Int)) (hl : l.length ≤ 1048576) (hm : ∀ r ∈ l, r.length ≤ 1048576) (d : Nat) : ∀ (i : Nat) (x : List (List Int)), l.length - i = d → i ≤ l.length → x.length = l.length → x.take i = l.take i → Ev (fun k => laws_toIntSS.l0 k l x (i : Int)) l := by
 induction d with
|zero =>
  intro i x hd hi hx ht
  have e : x = l := by rwa [List.take_of_length_le (by omega), List.take_of_length_le (by omega)] at ht
  subst e
  refine Ev.step (f := fun _ => some x) (fun k => ?_) (Ev.now x)
  simp only [laws_toIntSS.l0]
  rw [if_neg (by omega)]
|succ d ih =>
  intro i x hd hi hx ht
  have h : i < l.length := by omega
  refine Ev.step (f := fun k => (laws_toIntS.f k l[i]).bind fun t => if (i : Int) < (x.length : Int) then laws_toIntSS.l0 k l (x.set i t) ((i + 1 : Nat) : Int) else none) (fun k => ?_) (Ev.bind (toIntS_ev l[i] (hm _ (List.getElem_mem h))) ?_)
  ·simp only [laws_toIntSS.l0]
   rw [if_pos (by omega), if_pos (by omega), rdL_nat l i h, wrap_id (by omega) (by omega), Int.toNat_natCast]
   rfl
  ·simp only [if_pos (show (i : Int) < (x.length : Int) by omega)]
   exact ih (i + 1) _ (by omega) (by omega) (by simpa using hx) (set_takeL l x i h hx ht)
theorem toIntSS_ev (l : List (List Int)) (hl : l.length ≤ 1048576) (hm : ∀ r ∈ l, r.length ≤ 1048576) : Ev (fun k => laws_toIntSS.f k l) l := by
 refine Ev.congr (f := fun k => laws_toIntSS.l0 k l (List.replicate l.length []) ((0 : Nat) : Int)) (fun k => ?_) (toIntSS_l0 l hl hm l.length 0 _ (by omega) (by omega) (by simp) (by simp))
 unfold laws_toIntSS.f
 rw [if_pos (by omega), Int.toNat_natCast, if_pos (by omega)]
 rfl
theorem eqIntSS_l0 (l : List (List Int)) (hl : l.length ≤ 16777216) (hm : ∀ r ∈ l, r.length ≤ 16777216) (d : Nat) : ∀ (i : Nat), l.length - i = d → Ev (fun k => laws_eqIntSS.l0 k l l (i : Int)) true := by
 induction d with
|zero =>
  intro i hd
  refine Ev.step (f := fun _ => some true) (fun k => ?_) (Ev.now true)
  simp only [laws_eqIntSS.l0]
  rw [if_neg (by omega)]
|succ d ih =>
  intro i hd
  have h : i < l.length := by omega
  refine Ev.step (f := fun k => (laws_eqIntS.f k l[i] l[i]).bind fun t => if t = true then laws_eqIntSS.l0 k l l ((i + 1 : Nat) : Int) else some false) (fun k => ?_) (Ev.bind (eqIntS_self l[i] (hm _ (List.getElem_mem h))) ?_)
  ·simp only [laws_eqIntSS.l0]
   rw [if_pos (by omega), if_pos (by omega), if_pos (by omega), rdL_nat l i h, wrap_id (by omega) (by omega)]
   rfl
  ·simp only [if_true]
   exact ih (i + 1) (by omega)
theorem eqIntSS_self (l : List (List Int)) (hl : l.length ≤ 16777216) (hm : ∀ r ∈ l, r.length ≤ 16777216) : Ev (fun k => laws_eqIntSS.f k l l) true := by
 refine Ev.congr (f := fun k => laws_eqIntSS.l0 k l l ((0 : Nat) : Int)) (fun k => ?_) (eqIntSS_l0 l hl hm l.length 0 (by omega))
 unfold laws_eqIntSS.f
 rw [if_pos rfl]
 rfl
def rowOk (c : Int) (r : List Int) : Bool := decide ((r.length : Int) = c) && r.all fun x => decide (-2 ≤ x ∧ x ≤ 2)
def isMat (l : List (List Int)) (c : Int) : Bool := decide (1 ≤ c ∧ c ≤ 6) && decide (l.length ≤ 12) && l.all (rowOk c)
theorem allIn_l0 (l : List Int) (hl : l.length ≤ 16777216) (a b : Int) (d : Nat) : ∀ (i : Nat), l.length - i = d → Ev (fun k => impl_allIn.l0 k a b l (l.length : Int) (i : Int)) ((l.drop i).all fun x => decide (a ≤ x ∧ x ≤ b)) := by
 induction d with
|zero =>
  intro i hd
  rw [List.drop_eq_nil_of_le (by omega)]
  refine Ev.step (f := fun _ => some true) (fun k => ?_) (Ev.now true)
  simp only [impl_allIn.l0]
  rw [if_neg (by omega)]
|succ d ih =>
  intro i hd
  have h : i < l.length := by omega
  rw [drop_eq_cons l i h, List.all_cons]
  by_cases c : a ≤ l[i] ∧ l[i] ≤ b
  ·rw [decide_eq_true c, Bool.true_and]
   refine Ev.step (f := fun k => impl_allIn.l0 k a b l (l.length : Int) ((i + 1 : Nat) : Int)) (fun k => ?_) (ih (i + 1) (by omega))
   simp only [impl_allIn.l0]
   rw [if_pos (by omega), if_pos (by omega), if_pos (by omega), rd_nat l i h, InRange_eq, decide_eq_true c]
   simp only [Option.bind_some, if_true]
   rw [wrap_id (by omega) (by omega)]
   rfl
  ·rw [decide_eq_false c, Bool.false_and]
   refine Ev.step (f := fun _ => some false) (fun k => ?_) (Ev.now false)
   simp only [impl_allIn.l0]
   rw [if_pos (by omega), if_pos (by omega), if_pos (by omega), rd_nat l i h, InRange_eq, decide_eq_false c]
   simp only [Option.bind_some, Bool.false_eq_true, if_false]
theorem allIn_ev (l : List Int) (hl : l.length ≤ 16777216) (a b : Int) : Ev (fun k => impl_allIn.f k l a b) (l.all fun x => decide (a ≤ x ∧ x ≤ b)) := by
 have := allIn_l0 l hl a b l.length 0 (by omega)
 exact this
theorem implMat_l0 (l : List (List Int)) (hl : l.length ≤ 16777216) (hm : ∀ r ∈ l, r.length ≤ 16777216) (c : Int) (d : Nat) : ∀ (i : Nat), l.length - i = d → Ev (fun k => impl_IsMatrix.l0 k c l (l.length : Int) (i : Int)) ((l.drop i).all (rowOk c)) := by
 induction d with
|zero =>
  intro i hd
  rw [List.drop_eq_nil_of_le (by omega)]
  refine Ev.step (f := fun _ => some true) (fun k => ?_) (Ev.now true)
  simp only [impl_IsMatrix.l0]
  rw [if_neg (by omega)]
|succ d ih =>
  intro i hd
  have h : i < l.length := by omega
  rw [drop_consL l i h, List.all_cons]
  by_cases c1 : (l[i].length : Int) = c
  ·have e : rowOk c l[i] = l[i].all fun x => decide (-2 ≤ x ∧ x ≤ 2) := by unfold rowOk;rw [decide_eq_true c1, Bool.true_and]
   rw [e]
   refine Ev.step (f := fun k => (impl_allIn.f k l[i] (-2) 2).bind fun t => if t = true then impl_IsMatrix.l0 k c l (l.length : Int) ((i + 1 : Nat) : Int) else some false) (fun k => ?_) (Ev.bind (allIn_ev l[i] (hm _ (List.getElem_mem h)) (-2) 2) ?_)
   ·simp only [impl_IsMatrix.l0]
    rw [if_pos (by omega), if_pos (by omega), if_pos (by omega), rdL_nat l i h, if_pos c1, wrap_id (by omega) (by omega)]
    rfl
   ·cases l[i].all fun x => decide (-2 ≤ x ∧ x ≤ 2) with
   |true => simp only [if_true, Bool.true_and];exact ih (i + 1) (by omega)
   |false => simp only [Bool.false_eq_true, if_false, Bool.false_and];exact Ev.now _
  ·have e : rowOk c l[i] = false := by unfold rowOk;rw [decide_eq_false c1, Bool.false_and]
   rw [e, Bool.false_and]
   refine Ev.step (f := fun _ => some false) (fun k => ?_) (Ev.now false)
   simp only [impl_IsMatrix.l0]
   rw [if_pos (by omega), if_pos (by omega), if_pos (by omega), rdL_nat l i h, if_neg c1]
theorem implMat_ev (l : List (List Int)) (hl : l.length ≤ 16777216) (hm : ∀ r ∈ l, r.length ≤ 16777216) (c : Int) : Ev (fun k => impl_IsMatrix.f k l c) (isMat l c) := by
 unfold impl_IsMatrix.f isMat
 simp only [InRange_eq, Option.bind_some]
 by_cases c1 : 1 ≤ c ∧ c ≤ 6
 ·simp only [decide_eq_true c1, if_true, Bool.true_and]
  by_cases c2 : l.length ≤ 12
  ·rw [decide_eq_true c2, Bool.true_and, decide_eq_false (show ¬ ((l.length : Int) > 12) by omega)]
   refine Ev.step (fun k => impl_IsMatrix.j0.eq_2 _ _ _ _) ?_
   simp only [Bool.false_eq_true, if_false]
   exact implMat_l0 l hl hm c l.length 0 (by omega)
  ·rw [decide_eq_false c2, Bool.false_and, decide_eq_true (show (l.length : Int) > 12 by omega)]
   refine Ev.step (fun k => impl_IsMatrix.j0.eq_2 _ _ _ _) ?_
   simp only [if_true]
   exact Ev.now _
 ·simp only [decide_eq_false c1, Bool.false_eq_true, if_false, Bool.false_and]
  refine Ev.step (fun k => impl_IsMatrix.j0.eq_2 _ _ _ _) ?_
  simp only [if_true]
  exact Ev.now _
theorem specMat_l1 (l : List (List Int)) (hl : l.length ≤ 16777216) (c : Int) (i : Nat) (h : i < l.length) (hc : (l[i].length : Int) = c) (hr : l[i].length ≤ 16777216) (R : Bool) (hR : Ev (fun k => spec_IsMatrix.l0 k l c ((i + 1 : Nat) : Int)) R) (d : Nat) : ∀ j : Nat, l[i].length - j = d → Ev (fun k => spec_IsMatrix.l1 k l c (i : Int) (j : Int)) (((l[i].drop j).all fun x => decide (-2 ≤ x ∧ x ≤ 2)) && R) := by
 induction d with
|zero =>
  intro j hd
  rw [List.drop_eq_nil_of_le (by omega)]
  refine Ev.step (f := fun k => spec_IsMatrix.l0 k l c ((i + 1 : Nat) : Int)) (fun k => ?_) (by simpa using hR)
  simp only [spec_IsMatrix.l1]
  rw [if_neg (by omega), wrap_id (by omega) (by omega)]
  rfl
|succ d ih =>
  intro j hd
  have hj : j < l[i].length := by omega
  rw [drop_eq_cons l[i] j hj, List.all_cons]
  by_cases c1 : -2 ≤ l[i][j] ∧ l[i][j] ≤ 2
  ·rw [decide_eq_true c1, Bool.true_and]
   refine Ev.step (f := fun k => spec_IsMatrix.l1 k l c (i : Int) ((j + 1 : Nat) : Int)) (fun k => ?_) (ih (j + 1) (by omega))
   simp only [spec_IsMatrix.l1]
   rw [if_pos (by omega), if_pos (by omega), if_pos (by omega), if_pos (by omega), rdL_nat l i h, if_pos (by omega), rd_nat _ j hj, l1In_eq, decide_eq_true c1]
   simp only [Option.bind_some, if_true]
   rw [wrap_id (by omega) (by omega)]
   rfl
  ·rw [decide_eq_false c1, Bool.false_and, Bool.false_and]
   refine Ev.step (f := fun _ => some false) (fun k => ?_) (Ev.now false)
   simp only [spec_IsMatrix.l1]
   rw [if_pos (by omega), if_pos (by omega), if_pos (by omega), if_pos (by omega), rdL_nat l i h, if_pos (by omega), rd_nat _ j hj, l1In_eq, decide_eq_false c1]
   simp only [Option.bind_some, Bool.false_eq_true, if_false]
theorem specMat_l0 (l : List (List Int)) (hl : l.length ≤ 16777216) (hm : ∀ r ∈ l, r.length ≤ 16777216) (c : Int) (d : Nat) : ∀ (i : Nat), l.length - i = d → Ev (fun k => spec_IsMatrix.l0 k l c (i : Int)) ((l.drop i).all (rowOk c)) := by
 induction d with
|zero =>
  intro i hd
  rw [List.drop_eq_nil_of_le (by omega)]
  refine Ev.step (f := fun _ => some true) (fun k => ?_) (Ev.now true)
  simp only [spec_IsMatrix.l0]
  rw [if_neg (by omega)]
|succ d ih =>
  intro i hd
  have h : i < l.length := by omega
  rw [drop_consL l i h, List.all_cons]
  by_cases c1 : (l[i].length : Int) = c
  ·have e : rowOk c l[i] = l[i].all fun x => decide (-2 ≤ x ∧ x ≤ 2) := by unfold rowOk;rw [decide_eq_true c1, Bool.true_and]
   rw [e]
   refine Ev.step (f := fun k => spec_IsMatrix.l1 k l c (i : Int) ((0 : Nat) : Int)) (fun k => ?_) (specMat_l1 l hl c i h c1 (hm _ (List.getElem_mem h)) _ (ih (i + 1) (by omega)) l[i].length 0 (by omega))
   simp only [spec_IsMatrix.l0]
   rw [if_pos (by omega), if_pos (by omega), rdL_nat l i h, if_pos c1]
   rfl
  ·have e : rowOk c l[i] = false := by unfold rowOk;rw [decide_eq_false c1, Bool.false_and]
   rw [e, Bool.false_and]
   refine Ev.step (f := fun _ => some false) (fun k => ?_) (Ev.now false)
   simp only [spec_IsMatrix.l0]
   rw [if_pos (by omega), if_pos (by omega), rdL_nat l i h, if_neg c1]
theorem specMat_ev (l : List (List Int)) (hl : l.length ≤ 16777216) (hm : ∀ r ∈ l, r.length ≤ 16777216) (c : Int) : Ev (fun k => spec_IsMatrix.f k l c) (isMat l c) := by
 unfold spec_IsMatrix.f isMat
 simp only [l1In_eq, Option.bind_some]
 by_cases c1 : 1 ≤ c ∧ c ≤ 6
 ·simp only [decide_eq_true c1, if_true, Bool.true_and]
  by_cases c2 : l.length ≤ 12
  ·rw [decide_eq_true c2, Bool.true_and, decide_eq_false (show ¬ ((l.length : Int) > 12) by omega)]
   refine Ev.step (fun k => spec_IsMatrix.j0.eq_2 _ _ _ _) ?_
   simp only [Bool.false_eq_true, if_false]
   exact specMat_l0 l hl hm c l.length 0 (by omega)
  ·rw [decide_eq_false c2, Bool.false_and, decide_eq_true (show (l.length : Int) > 12 by omega)]
   refine Ev.step (fun k => spec_IsMatrix.j0.eq_2 _ _ _ _) ?_
   simp only [if_true]
   exact Ev.now _
 ·simp only [decide_eq_false c1, Bool.false_eq_true, if_false, Bool.false_and]
  refine Ev.step (fun k => spec_IsMatrix.j0.eq_2 _ _ _ _) ?_
  simp only [if_true]
  exact Ev.now _
def isSys (l : List (List Int)) (v : List Int) (c : Int) : Bool := isMat l c && decide (v.length = l.length) && v.all fun x => decide (-1000 ≤ x ∧ x ≤ 1000)
theorem implSys_ev (l : List (List Int)) (v : List Int) (hl : l.length ≤ 16777216) (hm : ∀ r ∈ l, r.length ≤ 16777216) (hv : v.length ≤ 16777216) (c : Int) : Ev (fun k => impl_IsSystem.f k l v c) (isSys l v c) := by
 unfold impl_IsSystem.f isSys
 refine Ev.bind (implMat_ev l hl hm c) ?_
 cases isMat l c with
|false => simp only [Bool.false_eq_true, if_false, Bool.false_and];exact Ev.now _
|true =>
  simp only [if_true, Bool.true_and]
  by_cases c1 : v.length = l.length
  ·simp only [if_pos (show (v.length : Int) = (l.length : Int) by omega), decide_eq_true c1, Bool.true_and]
   exact Ev.bind (allIn_ev v hv (-1000) 1000) (Ev.now _)
  ·simp only [if_neg (show ¬ ((v.length : Int) = (l.length : Int)) by omega), decide_eq_false c1, Bool.false_and]
   exact Ev.now _
theorem specSys_l0 (l : List (List Int)) (v : List Int) (hl : l.length ≤ 16777216) (hm : ∀ r ∈ l, r.length ≤ 16777216) (hv : v.length ≤ 16777216) (c : Int) (d : Nat) : ∀ (i : Nat), v.length - i = d → Ev (fun k => spec_IsSystem.l0 k l v c (i : Int)) (((v.drop i).all fun x => decide (-1000 ≤ x ∧ x ≤ 1000)) && (isMat l c && decide (v.length = l.length))) := by
 induction d with
|zero =>
  intro i hd
  rw [List.drop_eq_nil_of_le (by omega), List.all_nil, Bool.true_and]
  refine Ev.step (f := fun k => (spec_IsMatrix.f k l c).bind fun t => if t = true then some ((v.length : Int) == (l.length : Int)) else some false) (fun k => ?_) (Ev.bind (specMat_ev l hl hm c) ?_)
  ·simp only [spec_IsSystem.l0]
   rw [if_neg (by omega)]
  ·cases isMat l c with
  |false => simp only [Bool.false_eq_true, if_false, Bool.false_and];exact Ev.now _
  |true =>
    simp only [if_true, Bool.true_and]
    have e : ((v.length : Int) == (l.length : Int)) = decide (v.length = l.length) := by
     rw [Bool.eq_iff_iff, beq_iff_eq, decide_eq_true_iff]
     omega
    rw [e]
    exact Ev.now _
|succ d ih =>
  intro i hd
  have h : i < v.length := by omega
  rw [drop_eq_cons v i h, List.all_cons]
  by_cases c1 : -1000 ≤ v[i] ∧ v[i] ≤ 1000
  ·rw [decide_eq_true c1, Bool.true_and]
   refine Ev.step (f := fun k => spec_IsSystem.l0 k l v c ((i + 1 : Nat) : Int)) (fun k => ?_) (ih (i + 1) (by omega))
   simp only [spec_IsSystem.l0]
   rw [if_pos (by omega), if_pos (by omega), rd_nat v i h, l1In_eq, decide_eq_true c1]
   simp only [Option.bind_some, if_true]
   rw [wrap_id (by omega) (by omega)]
   rfl
  ·rw [decide_eq_false c1, Bool.false_and, Bool.false_and]
   refine Ev.step (f := fun _ => some false) (fun k => ?_) (Ev.now false)
   simp only [spec_IsSystem.l0]
   rw [if_pos (by omega), if_pos (by omega), rd_nat v i h, l1In_eq, decide_eq_false c1]
   simp only [Option.bind_some, Bool.false_eq_true, if_false]
theorem specSys_ev (l : List (List Int)) (v : List Int) (hl : l.length ≤ 16777216) (hm : ∀ r ∈ l, r.length ≤ 16777216) (hv : v.length ≤ 16777216) (c : Int) : Ev (fun k => spec_IsSystem.f k l v c) (isSys l v c) := by
 have := specSys_l0 l v hl hm hv c v.length 0 (by omega)
 rw [Bool.and_comm] at this
 exact this
theorem impl_gcd_l0 (b : Nat) : ∀ a : Nat, Ev (fun k => impl_gcd.l0 k (a : Int) (b : Int)) ((Nat.gcd a b : Nat) : Int) := by
 induction b using Nat.strongRecOn with
|ind b ih =>
  intro a
  by_cases h : b = 0
  ·subst h
   refine Ev.step (f := fun _ => some (a : Int)) (fun k => ?_) (by simpa using Ev.now (a : Int))
   simp only [impl_gcd.l0]
   rw [if_pos (by omega)]
  ·have hg : Nat.gcd a b = Nat.gcd b (a % b) := by rw [Nat.gcd_comm a b, Nat.gcd_rec b a, Nat.gcd_comm]
   rw [hg]
   refine Ev.step (f := fun k => impl_gcd.l0 k (b : Int) ((a % b : Nat) : Int)) (fun k => ?_) (ih (a % b) (Nat.mod_lt _ (by omega)) b)
   simp only [impl_gcd.l0]
   rw [if_neg (by omega), Int.tmod_eq_emod_of_nonneg (by omega)]
   rfl
theorem spec_l4Gcd_l0 (b : Nat) : ∀ a : Nat, Ev (fun k => spec_l4Gcd.l0 k (a : Int) (b : Int)) ((Nat.gcd a b : Nat) : Int) := by
 induction b using Nat.strongRecOn with
|ind b ih =>
  intro a
  by_cases h : b = 0
  ·subst h
   refine Ev.step (f := fun _ => some (a : Int)) (fun k => ?_) (by simpa using Ev.now (a : Int))
   simp only [spec_l4Gcd.l0]
   rw [if_neg (by omega)]
  ·have hg : Nat.gcd a b = Nat.gcd b (a % b) := by rw [Nat.gcd_comm a b, Nat.gcd_rec b a, Nat.gcd_comm]
   rw [hg]
   refine Ev.step (f := fun k => spec_l4Gcd.l0 k (b : Int) ((a % b : Nat) : Int)) (fun k => ?_) (ih (a % b) (Nat.mod_lt _ (by omega)) b)
   simp only [spec_l4Gcd.l0]
   rw [if_pos (by omega), if_neg (by omega), Int.tmod_eq_emod_of_nonneg (by omega)]
   rfl
theorem gcdI_ev (a b : Int) (ha : -9223372036854775808 < a) (ha' : a < 9223372036854775808) (hb : -9223372036854775808 < b) (hb' : b < 9223372036854775808) : Ev (fun k => impl_gcd.f k a b) ((Int.gcd a b : Nat) : Int) := by
 have h0 : Ev (fun k => impl_gcd.j0 k ((a.natAbs : Nat) : Int) b) ((Int.gcd a b : Nat) : Int) := by
  refine Ev.step (f := fun k => impl_gcd.j1 k ((a.natAbs : Nat) : Int) ((b.natAbs : Nat) : Int)) (fun k => ?_) (Ev.step (fun k => impl_gcd.j1.eq_2 _ _ _) (impl_gcd_l0 b.natAbs a.natAbs))
  simp only [impl_gcd.j0]
  by_cases h : b < 0
  ·rw [if_pos h, wrap_id (by omega) (by omega), show -b = ((b.natAbs : Nat) : Int) by omega]
  ·rw [if_neg h, show (b.natAbs : Int) = b by omega]
 unfold impl_gcd.f
 by_cases h : a < 0
 ·simp only [if_pos h]
  rw [wrap_id (by omega) (by omega), show -a = ((a.natAbs : Nat) : Int) by omega]
  exact h0
 ·simp only [if_neg h]
  rw [show (a.natAbs : Int) = a by omega] at h0
  exact h0
theorem absS (a : Int) (ha : -9223372036854775808 < a) (ha' : a < 9223372036854775808) : spec_Max.f a (wrap64 (-a)) = some ((a.natAbs : Nat) : Int) := by
 unfold spec_Max.f
 rw [wrap_id (by omega) (by omega)]
 by_cases h : -a > a
 ·rw [if_pos h]; congr 1; omega
 ·rw [if_neg h]; congr 1; omega
theorem gcdS_ev (a b : Int) (ha : -9223372036854775808 < a) (ha' : a < 9223372036854775808) (hb : -9223372036854775808 < b) (hb' : b < 9223372036854775808) : Ev (fun k => spec_l4Gcd.f k a b) ((Int.gcd a b : Nat) : Int) := by
 unfold spec_l4Gcd.f
 simp only [absS a ha ha', absS b hb hb', Option.bind_some]
 exact spec_l4Gcd_l0 b.natAbs a.natAbs
def isR (n d : Int) : Bool := decide ((-1000000000 ≤ n ∧ n ≤ 1000000000) ∧ (1 ≤ d ∧ d ≤ 1000000000) ∧ ((Int.gcd n d : Nat) : Int) = 1)
theorem isRI_ev (n d : Int) : Ev (fun k => impl_IsRatio.f k n d) (isR n d) := by
 unfold impl_IsRatio.f isR
 simp only [InRange_eq, Option.bind_some]
 by_cases c1 : -1000000000 ≤ n ∧ n ≤ 1000000000
 ·by_cases c2 : 1 ≤ d ∧ d ≤ 1000000000
  ·simp only [decide_eq_true c1, decide_eq_true c2, if_true]
   refine Ev.bind (gcdI_ev n d (by omega) (by omega) (by omega) (by omega)) ?_
   have e : (((Int.gcd n d : Nat) : Int) == 1) = decide ((-1000000000 ≤ n ∧ n ≤ 1000000000) ∧ (1 ≤ d ∧ d ≤ 1000000000) ∧ ((Int.gcd n d : Nat) : Int) = 1) := by
    rw [Bool.eq_iff_iff, beq_iff_eq, decide_eq_true_iff]
    exact ⟨fun h => ⟨c1, c2, h⟩, fun h => h.2.2⟩
   rw [e]
   exact Ev.now _
  ·simp only [decide_eq_true c1, decide_eq_false c2, if_true, Bool.false_eq_true, if_false]
   rw [decide_eq_false fun h => c2 h.2.1]
   exact Ev.now _
 ·simp only [decide_eq_false c1, Bool.false_eq_true, if_false]
  rw [decide_eq_false fun h => c1 h.1]
  exact Ev.now _
theorem isRS_ev (n d : Int) : Ev (fun k => spec_IsRatio.f k n d) (isR n d) := by
 unfold spec_IsRatio.f isR
 simp only [l1In_eq, Option.bind_some]
 by_cases c1 : -1000000000 ≤ n ∧ n ≤ 1000000000
 ·by_cases c2 : 1 ≤ d ∧ d ≤ 1000000000
  ·simp only [decide_eq_true c1, decide_eq_true c2, if_true]
   refine Ev.bind (gcdS_ev n d (by omega) (by omega) (by omega) (by omega)) ?_
   have e : (((Int.gcd n d : Nat) : Int) == 1) = decide ((-1000000000 ≤ n ∧ n ≤ 1000000000) ∧ (1 ≤ d ∧ d ≤ 1000000000) ∧ ((Int.gcd n d : Nat) : Int) = 1) := by
    rw [Bool.eq_iff_iff, beq_iff_eq, decide_eq_true_iff]
    exact ⟨fun h => ⟨c1, c2, h⟩, fun h => h.2.2⟩
   rw [e]
   exact Ev.now _
  ·simp only [decide_eq_true c1, decide_eq_false c2, if_true, Bool.false_eq_true, if_false]
   rw [decide_eq_false fun h => c2 h.2.1]
   exact Ev.now _
 ·simp only [decide_eq_false c1, Bool.false_eq_true, if_false]
  rw [decide_eq_false fun h => c1 h.1]
  exact Ev.now _
theorem isR_iff (n d : Int) : isR n d = true ↔ (-1000000000 ≤ n ∧ n ≤ 1000000000) ∧ (1 ≤ d ∧ d ≤ 1000000000) ∧ ((Int.gcd n d : Nat) : Int) = 1 := by
 unfold isR
 rw [decide_eq_true_iff]
def redOf (n d : Int) : Int × Int × Bool :=
 if isR (Int.tdiv n (if d < 0 then -((Int.gcd n d : Nat) : Int) else ((Int.gcd n d : Nat) : Int))) (Int.tdiv d (if d < 0 then -((Int.gcd n d : Nat) : Int) else ((Int.gcd n d : Nat) : Int))) = true then
  (Int.tdiv n (if d < 0 then -((Int.gcd n d : Nat) : Int) else ((Int.gcd n d : Nat) : Int)), Int.tdiv d (if d < 0 then -((Int.gcd n d : Nat) : Int) else ((Int.gcd n d : Nat) : Int)), true)
 else (0, 0, false)
theorem tdiv_le (n g : Int) : (Int.tdiv n g).natAbs ≤ n.natAbs := by
 rw [Int.natAbs_tdiv]
 exact Nat.div_le_self _ _
theorem gcd_small (n d : Int) (hd : d ≠ 0) (hd0 : -9223372036854775808 < d) (hd1 : d < 9223372036854775808) : 0 < ((Int.gcd n d : Nat) : Int) ∧ ((Int.gcd n d : Nat) : Int) < 9223372036854775808 := by
 have h1 : 0 < Int.gcd n d := by
  rcases Nat.eq_zero_or_pos (Int.gcd n d) with h | h
  ·exact absurd (Int.gcd_eq_zero_iff.1 h).2 hd
  ·exact h
 have h2 : Int.gcd n d ≤ d.natAbs := Nat.le_of_dvd (by omega) (by
  have := Int.gcd_dvd_right n d
  exact Int.natAbs_dvd_natAbs.2 this)
 omega
theorem redI_ev (n d : Int) (hd : d ≠ 0) (hn0 : -9223372036854775808 < n) (hn1 : n < 9223372036854775808) (hd0 : -9223372036854775808 < d) (hd1 : d < 9223372036854775808) : Ev (fun k => impl_reduced.f k n d) (redOf n d) := by
 have hg := gcd_small n d hd hd0 hd1
 unfold impl_reduced.f redOf
 refine Ev.bind (gcdI_ev n d hn0 hn1 hd0 hd1) ?_
 by_cases c : d < 0
 ·simp only [if_pos c]
  have b1 := tdiv_le n (-((Int.gcd n d : Nat) : Int))
  have b2 := tdiv_le d (-((Int.gcd n d : Nat) : Int))
  have e1 : wrap64 (-((Int.gcd n d : Nat) : Int)) = -((Int.gcd n d : Nat) : Int) := wrap_id (by omega) (by omega)
  have e2 : wrap64 (Int.tdiv n (-((Int.gcd n d : Nat) : Int))) = Int.tdiv n (-((Int.gcd n d : Nat) : Int)) := wrap_id (by omega) (by omega)
  have e3 : wrap64 (Int.tdiv d (-((Int.gcd n d : Nat) : Int))) = Int.tdiv d (-((Int.gcd n d : Nat) : Int)) := wrap_id (by omega) (by omega)
  simp only [e1, e2, e3, if_neg (show ¬ (-((Int.gcd n d : Nat) : Int) = 0) by omega)]
  refine Ev.bind (isRI_ev _ _) ?_
  split <;> exact Ev.now _
 ·simp only [if_neg c]
  have b1 := tdiv_le n ((Int.gcd n d : Nat) : Int)
  have b2 := tdiv_le d ((Int.gcd n d : Nat) : Int)
  have e2 : wrap64 (Int.tdiv n ((Int.gcd n d : Nat) : Int)) = Int.tdiv n ((Int.gcd n d : Nat) : Int) := wrap_id (by omega) (by omega)
  have e3 : wrap64 (Int.tdiv d ((Int.gcd n d : Nat) : Int)) = Int.tdiv d ((Int.gcd n d : Nat) : Int) := wrap_id (by omega) (by omega)
  simp only [e2, e3, if_neg (show ¬ (((Int.gcd n d : Nat) : Int) = 0) by omega)]
  refine Ev.bind (isRI_ev _ _) ?_
  split <;> exact Ev.now _
theorem makeS_j0 (n d : Int) (hd : 0 < d) (hn0 : -9223372036854775808 < n) (hn1 : n < 9223372036854775808) (hd1 : d < 9223372036854775808) : Ev (fun k => spec_l4Make.j0 k n d) (redOf n d) := by
 have hg := gcd_small n d (by omega) (by omega) hd1
 refine Ev.step (fun k => spec_l4Make.j0.eq_2 _ _ _) ?_
 unfold redOf
 refine Ev.bind (gcdS_ev n d hn0 hn1 (by omega) hd1) ?_
 have b1 := tdiv_le n ((Int.gcd n d : Nat) : Int)
 have b2 := tdiv_le d ((Int.gcd n d : Nat) : Int)
 have e2 : wrap64 (Int.tdiv n ((Int.gcd n d : Nat) : Int)) = Int.tdiv n ((Int.gcd n d : Nat) : Int) := wrap_id (by omega) (by omega)
 have e3 : wrap64 (Int.tdiv d ((Int.gcd n d : Nat) : Int)) = Int.tdiv d ((Int.gcd n d : Nat) : Int) := wrap_id (by omega) (by omega)
 simp only [e2, e3, if_neg (show ¬ (d < 0) by omega), if_neg (show ¬ (((Int.gcd n d : Nat) : Int) = 0) by omega)]
 refine Ev.bind (isRS_ev _ _) ?_
 split <;> exact Ev.now _
theorem redOf_neg (n d : Int) (hd : d < 0) : redOf (-n) (-d) = redOf n d := by
 unfold redOf
 simp only [Int.gcd_neg, Int.neg_gcd, if_pos hd, if_neg (show ¬ (-d < 0) by omega), Int.neg_tdiv, Int.tdiv_neg]
theorem makeS_ev (n d : Int) (hd : d ≠ 0) (hn0 : -9223372036854775808 < n) (hn1 : n < 9223372036854775808) (hd0 : -9223372036854775808 < d) (hd1 : d < 9223372036854775808) : Ev (fun k => spec_l4Make.f k n d) (redOf n d) := by
 unfold spec_l4Make.f
 simp only [if_neg hd]
 by_cases c : d < 0
 ·simp only [if_pos c]
  rw [wrap_id (by omega) (by omega), wrap_id (by omega) (by omega), ← redOf_neg n d c]
  exact makeS_j0 (-n) (-d) (by omega) (by omega) (by omega) (by omega)
 ·simp only [if_neg c]
  exact makeS_j0 n d (by omega) hn0 hn1 hd1
theorem mul_bd {x y : Int} {A B : Nat} (hx : x.natAbs ≤ A) (hy : y.natAbs ≤ B) : (x * y).natAbs ≤ A * B := by
 rw [Int.natAbs_mul]
 exact Nat.mul_le_mul hx hy
theorem den_pos {b d : Int} (hb : 1 ≤ b) (hd : 1 ≤ d) : 0 < b * d := Int.mul_pos (by omega) (by omega)
def addOf (a b c d : Int) : Int × Int × Bool := if isR a b = true ∧ isR c d = true then redOf (a * d + c * b) (b * d) else (0, 0, false)
theorem SAdd_ev (a b c d : Int) : Ev (fun k => spec_AddRatios.f k a b c d) (addOf a b c d) := by
 unfold spec_AddRatios.f addOf
 refine Ev.bind (isRS_ev a b) ?_
 by_cases c1 : isR a b = true
 ·simp only [c1, if_true, true_and]
  refine Ev.bind (isRS_ev c d) ?_
  by_cases c2 : isR c d = true
  ·simp only [c2, if_true]
   have h1 := (isR_iff a b).1 c1
   have h2 := (isR_iff c d).1 c2
   have m1 := mul_bd (x := a) (y := d) (A := 1000000000) (B := 1000000000) (by omega) (by omega)
   have m2 := mul_bd (x := c) (y := b) (A := 1000000000) (B := 1000000000) (by omega) (by omega)
   have m3 := mul_bd (x := b) (y := d) (A := 1000000000) (B := 1000000000) (by omega) (by omega)
   have m4 := mul_bd (x := a) (y := c) (A := 1000000000) (B := 1000000000) (by omega) (by omega)
   have m5 := den_pos h1.2.1.1 h2.2.1.1
   have e1 : wrap64 (a * d) = a * d := wrap_id (by omega) (by omega)
   have e2 : wrap64 (c * b) = c * b := wrap_id (by omega) (by omega)
   have e3 : wrap64 (b * d) = b * d := wrap_id (by omega) (by omega)
   have e4 : wrap64 (a * d + c * b) = a * d + c * b := wrap_id (by omega) (by omega)
   have e5 : wrap64 (a * c) = a * c := wrap_id (by omega) (by omega)
   simp only [e1, e2, e3, e4, e5]
   exact Ev.bind (makeS_ev (a * d + c * b) (b * d) (by omega) (by omega) (by omega) (by omega) (by omega)) (Ev.now _)
  ·simp only [if_neg c2]
   exact Ev.now _
 ·simp only [if_neg c1]
  rw [if_neg fun h => c1 h.1]
  exact Ev.now _
theorem IAdd_ev (a b c d : Int) : Ev (fun k => impl_AddRatios.f k a b c d) (addOf a b c d) := by
 unfold impl_AddRatios.f addOf
 refine Ev.bind (isRI_ev a b) ?_
 by_cases c1 : isR a b = true
 ·simp only [c1, if_true, true_and]
  refine Ev.bind (isRI_ev c d) ?_
  by_cases c2 : isR c d = true
  ·simp only [c2, if_true]
   have h1 := (isR_iff a b).1 c1
   have h2 := (isR_iff c d).1 c2
   have m1 := mul_bd (x := a) (y := d) (A := 1000000000) (B := 1000000000) (by omega) (by omega)
   have m2 := mul_bd (x := c) (y := b) (A := 1000000000) (B := 1000000000) (by omega) (by omega)
   have m3 := mul_bd (x := b) (y := d) (A := 1000000000) (B := 1000000000) (by omega) (by omega)
   have m4 := mul_bd (x := a) (y := c) (A := 1000000000) (B := 1000000000) (by omega) (by omega)
   have m5 := den_pos h1.2.1.1 h2.2.1.1
   have e1 : wrap64 (a * d) = a * d := wrap_id (by omega) (by omega)
   have e2 : wrap64 (c * b) = c * b := wrap_id (by omega) (by omega)
   have e3 : wrap64 (b * d) = b * d := wrap_id (by omega) (by omega)
   have e4 : wrap64 (a * d + c * b) = a * d + c * b := wrap_id (by omega) (by omega)
   have e5 : wrap64 (a * c) = a * c := wrap_id (by omega) (by omega)
   simp only [e1, e2, e3, e4, e5]
   exact Ev.bind (redI_ev (a * d + c * b) (b * d) (by omega) (by omega) (by omega) (by omega) (by omega)) (Ev.now _)
  ·simp only [if_neg c2]
   exact Ev.now _
 ·simp only [if_neg c1]
  rw [if_neg fun h => c1 h.1]
  exact Ev.now _
def timesOf (a b c d : Int) : Int × Int × Bool := if isR a b = true ∧ isR c d = true then redOf (a * c) (b * d) else (0, 0, false)
theorem STimes_ev (a b c d : Int) : Ev (fun k => spec_TimesRatios.f k a b c d) (timesOf a b c d) := by
 unfold spec_TimesRatios.f timesOf
 refine Ev.bind (isRS_ev a b) ?_
 by_cases c1 : isR a b = true
 ·simp only [c1, if_true, true_and]
  refine Ev.bind (isRS_ev c d) ?_
  by_cases c2 : isR c d = true
  ·simp only [c2, if_true]
   have h1 := (isR_iff a b).1 c1
   have h2 := (isR_iff c d).1 c2
   have m1 := mul_bd (x := a) (y := d) (A := 1000000000) (B := 1000000000) (by omega) (by omega)
   have m2 := mul_bd (x := c) (y := b) (A := 1000000000) (B := 1000000000) (by omega) (by omega)
   have m3 := mul_bd (x := b) (y := d) (A := 1000000000) (B := 1000000000) (by omega) (by omega)
   have m4 := mul_bd (x := a) (y := c) (A := 1000000000) (B := 1000000000) (by omega) (by omega)
   have m5 := den_pos h1.2.1.1 h2.2.1.1
   have e1 : wrap64 (a * d) = a * d := wrap_id (by omega) (by omega)
   have e2 : wrap64 (c * b) = c * b := wrap_id (by omega) (by omega)
   have e3 : wrap64 (b * d) = b * d := wrap_id (by omega) (by omega)
   have e4 : wrap64 (a * d + c * b) = a * d + c * b := wrap_id (by omega) (by omega)
   have e5 : wrap64 (a * c) = a * c := wrap_id (by omega) (by omega)
   simp only [e1, e2, e3, e4, e5]
   exact Ev.bind (makeS_ev (a * c) (b * d) (by omega) (by omega) (by omega) (by omega) (by omega)) (Ev.now _)
  ·simp only [if_neg c2]
   exact Ev.now _
 ·simp only [if_neg c1]
  rw [if_neg fun h => c1 h.1]
  exact Ev.now _
theorem ITimes_ev (a b c d : Int) : Ev (fun k => impl_TimesRatios.f k a b c d) (timesOf a b c d) := by
 unfold impl_TimesRatios.f timesOf
 refine Ev.bind (isRI_ev a b) ?_
 by_cases c1 : isR a b = true
 ·simp only [c1, if_true, true_and]
  refine Ev.bind (isRI_ev c d) ?_
  by_cases c2 : isR c d = true
  ·simp only [c2, if_true]
   have h1 := (isR_iff a b).1 c1
   have h2 := (isR_iff c d).1 c2
   have m1 := mul_bd (x := a) (y := d) (A := 1000000000) (B := 1000000000) (by omega) (by omega)
   have m2 := mul_bd (x := c) (y := b) (A := 1000000000) (B := 1000000000) (by omega) (by omega)
   have m3 := mul_bd (x := b) (y := d) (A := 1000000000) (B := 1000000000) (by omega) (by omega)
   have m4 := mul_bd (x := a) (y := c) (A := 1000000000) (B := 1000000000) (by omega) (by omega)
   have m5 := den_pos h1.2.1.1 h2.2.1.1
   have e1 : wrap64 (a * d) = a * d := wrap_id (by omega) (by omega)
   have e2 : wrap64 (c * b) = c * b := wrap_id (by omega) (by omega)
   have e3 : wrap64 (b * d) = b * d := wrap_id (by omega) (by omega)
   have e4 : wrap64 (a * d + c * b) = a * d + c * b := wrap_id (by omega) (by omega)
   have e5 : wrap64 (a * c) = a * c := wrap_id (by omega) (by omega)
   simp only [e1, e2, e3, e4, e5]
   exact Ev.bind (redI_ev (a * c) (b * d) (by omega) (by omega) (by omega) (by omega) (by omega)) (Ev.now _)
  ·simp only [if_neg c2]
   exact Ev.now _
 ·simp only [if_neg c1]
  rw [if_neg fun h => c1 h.1]
  exact Ev.now _
theorem isMat_iff (m : List (List Int)) (c : Int) : isMat m c = true ↔ (1 ≤ c ∧ c ≤ 6) ∧ m.length ≤ 12 ∧ ∀ r ∈ m, (r.length : Int) = c ∧ ∀ x ∈ r, -2 ≤ x ∧ x ≤ 2 := by
 unfold isMat rowOk
 simp only [Bool.and_eq_true, decide_eq_true_eq, List.all_eq_true]
 constructor
 ·rintro ⟨⟨h1, h2⟩, h3⟩
  exact ⟨h1, h2, h3⟩
 ·rintro ⟨h1, h2, h3⟩
  exact ⟨⟨h1, h2⟩, h3⟩
theorem isSys_iff (m : List (List Int)) (v : List Int) (c : Int) : isSys m v c = true ↔ isMat m c = true ∧ v.length = m.length ∧ ∀ x ∈ v, -1000 ≤ x ∧ x ≤ 1000 := by
 unfold isSys
 simp only [Bool.and_eq_true, decide_eq_true_eq, List.all_eq_true]
 constructor
 ·intro h
  obtain ⟨h1, h2⟩ := h
  first
   | exact ⟨h1.1, by omega, h2⟩
   | exact ⟨h1, by omega, h2.2⟩
   | exact ⟨h2.1, by omega, h1⟩
 ·rintro ⟨h1, h2, h3⟩
  first
   | exact ⟨⟨h1, by omega⟩, h3⟩
   | exact ⟨h1, by omega, h3⟩
   | exact ⟨h3, h1, by omega⟩
def dotR : List Int → List S26 → Int → Int → Int × Int × Bool
 | n :: row, q :: x, a, b => if (timesOf n 1 q.f0 q.f1).2.2 = true then (if (addOf a b (timesOf n 1 q.f0 q.f1).1 (timesOf n 1 q.f0 q.f1).2.1).2.2 = true then dotR row x (addOf a b (timesOf n 1 q.f0 q.f1).1 (timesOf n 1 q.f0 q.f1).2.1).1 (addOf a b (timesOf n 1 q.f0 q.f1).1 (timesOf n 1 q.f0 q.f1).2.1).2.1 else (0, 0, false)) else (0, 0, false)
 | _, _, a, b => (a, b, true)
theorem dotR_nil (row : List Int) (x : List S26) (a b : Int) (h : row = [] ∨ x = []) : dotR row x a b = (a, b, true) := by
 rcases h with rfl | rfl
 ·unfold dotR; rfl
 ·cases row <;> (unfold dotR; rfl)
theorem l6Dot_l0 (row : List Int) (x : List S26) (hl : row.length ≤ 1000) (hx : x.length ≤ 1000) (d : Nat) : ∀ (i : Nat) (a b : Int), row.length - i = d → Ev (fun k => spec_l6Dot.l0 k row x (i : Int) a b) (dotR (row.drop i) (x.drop i) a b) := by
 induction d with
|zero =>
  intro i a b hd
  rw [dotR_nil _ _ _ _ (.inl (List.drop_eq_nil_of_le (by omega)))]
  refine Ev.step (f := fun k => spec_l6Dot.j1 k row x (i : Int) false a b) (fun k => ?_) (Ev.step (f := fun _ => some (a, b, true)) (fun k => ?_) (Ev.now _))
  ·simp only [spec_l6Dot.l0]
   rw [if_neg (by omega)]
  ·simp only [spec_l6Dot.j1]
   rw [if_neg (by decide)]
|succ d ih =>
  intro i a b hd
  have h1 : i < row.length := by omega
  by_cases h2 : i < x.length
  ·rw [List.drop_eq_getElem_cons h1, List.drop_eq_getElem_cons h2]
   have hrx : rd_T26 x (i : Int) = x[i] := by
    unfold rd_T26
    rw [Int.toNat_natCast, List.getD_eq_getElem?_getD, List.getElem?_eq_getElem h2]
    rfl
   refine Ev.step (f := fun k => spec_l6Dot.j1 k row x (i : Int) true a b) (fun k => ?_) (Ev.step (f := fun k => (spec_TimesRatios.f k row[i] 1 x[i].f0 x[i].f1).bind fun y => if y.2.2 = true then ((spec_AddRatios.f k a b y.1 y.2.1).bind fun z => if z.2.2 = true then spec_l6Dot.l0 k row x ((i + 1 : Nat) : Int) z.1 z.2.1 else some (0, 0, false)) else some (0, 0, false)) (fun k => ?_) ?_)
   ·simp only [spec_l6Dot.l0]
    rw [if_pos (by omega), decide_eq_true (by omega)]
   ·simp only [spec_l6Dot.j1]
    rw [if_pos trivial, if_pos (by omega), if_pos (by omega), if_pos (by omega), rd_nat row i h1, hrx, wrap_id (by omega) (by omega)]
    rfl
   ·refine Ev.bind (STimes_ev row[i] 1 x[i].f0 x[i].f1) ?_
    unfold dotR
    by_cases c1 : (timesOf row[i] 1 x[i].f0 x[i].f1).2.2 = true
    ·simp only [if_pos c1]
     refine Ev.bind (SAdd_ev a b _ _) ?_
     by_cases c2 : (addOf a b (timesOf row[i] 1 x[i].f0 x[i].f1).1 (timesOf row[i] 1 x[i].f0 x[i].f1).2.1).2.2 = true
     ·simp only [if_pos c2]
      exact ih (i + 1) _ _ (by omega)
     ·simp only [if_neg c2]
      exact Ev.now _
    ·simp only [if_neg c1]
     exact Ev.now _
  ·rw [dotR_nil _ _ _ _ (.inr (List.drop_eq_nil_of_le (by omega)))]
   refine Ev.step (f := fun k => spec_l6Dot.j1 k row x (i : Int) false a b) (fun k => ?_) (Ev.step (f := fun _ => some (a, b, true)) (fun k => ?_) (Ev.now _))
   ·simp only [spec_l6Dot.l0]
    rw [if_pos (by omega), decide_eq_false (by omega)]
   ·simp only [spec_l6Dot.j1]
    rw [if_neg (by decide)]
theorem l6Dot_ev (row : List Int) (x : List S26) (hl : row.length ≤ 1000) (hx : x.length ≤ 1000) : Ev (fun k => spec_l6Dot.f k row x) (dotR row x 0 1) := by
 unfold spec_l6Dot.f
 exact l6Dot_l0 row x hl hx row.length 0 0 1 (by omega)
def allR (x : List S26) : Bool := x.all fun q => isR q.f0 q.f1
def okRow (x : List S26) (p : List Int × Int) : Bool := (dotR p.1 x 0 1).2.2 && (((dotR p.1 x 0 1).1 == p.2) && ((dotR p.1 x 0 1).2.1 == 1))
def fitB (m : List (List Int)) (v : List Int) (x : List S26) : Bool := (List.zip m v).all (okRow x)
def fitOf (m : List (List Int)) (v : List Int) (x : List S26) : Bool := isSys m v (x.length : Int) && (allR x && fitB m v x)
theorem rdF (x : List S26) (i : Nat) (h : i < x.length) : rd_T26 x (i : Int) = x[i] := by
 unfold rd_T26
 rw [Int.toNat_natCast, List.getD_eq_getElem?_getD, List.getElem?_eq_getElem h]
 rfl
theorem idxR_l0 (x : List S26) (hx : x.length ≤ 16777216) (d : Nat) : ∀ i : Nat, x.length - i = d → ∃ t : Int, Ev (fun k => impl_Ratio_103.l0 k x (x.length : Int) (i : Int)) t ∧ (decide (t ≥ 0) = !(allR (x.drop i))) := by
 induction d with
|zero =>
  intro i hd
  refine ⟨-1, Ev.step (f := fun _ => some (-1)) (fun k => ?_) (Ev.now _), ?_⟩
  ·simp only [impl_Ratio_103.l0]
   rw [if_neg (by omega)]
  ·rw [List.drop_eq_nil_of_le (by omega)]
   simp [allR]
|succ d ih =>
  intro i hd
  have h : i < x.length := by omega
  obtain ⟨t, ht, he⟩ := ih (i + 1) (by omega)
  have hn : Ev (fun k => impl_FitsSystemNot.f k x[i].f0 x[i].f1) (!(isR x[i].f0 x[i].f1)) := by
   unfold impl_FitsSystemNot.f
   exact Ev.bind (isRI_ev _ _) (Ev.now _)
  have hs : ∀ k, impl_Ratio_103.l0 (k + 1) x (x.length : Int) (i : Int) = (impl_FitsSystemNot.f k x[i].f0 x[i].f1).bind fun t => if t = true then some (i : Int) else impl_Ratio_103.l0 k x (x.length : Int) ((i + 1 : Nat) : Int) := fun k => by
   simp only [impl_Ratio_103.l0]
   rw [if_pos (by omega), if_pos (by omega), if_pos (by omega), rdF x i h, wrap_id (by omega) (by omega)]
   rfl
  rw [List.drop_eq_getElem_cons h]
  by_cases c : isR x[i].f0 x[i].f1 = true
  ·refine ⟨t, Ev.step hs (Ev.bind hn ?_), ?_⟩
   ·rw [c]
    simp only [Bool.not_true, Bool.false_eq_true, if_false]
    exact ht
   ·rw [he]
    unfold allR
    rw [List.all_cons, c, Bool.true_and]
  ·refine ⟨(i : Int), Ev.step hs (Ev.bind hn ?_), ?_⟩
   ·rw [Bool.eq_false_iff.2 c]
    simp only [Bool.not_false, if_true]
    exact Ev.now _
   ·unfold allR
    rw [List.all_cons, Bool.eq_false_iff.2 c, Bool.false_and, Bool.not_false, decide_eq_true (by omega)]
theorem contR_ev (x : List S26) (hx : x.length ≤ 16777216) : Ev (fun k => impl_Ratio_72.f k x) (!(allR x)) := by
 obtain ⟨t, ht, he⟩ := idxR_l0 x hx x.length 0 (by omega)
 unfold impl_Ratio_72.f impl_Ratio_103.f
 rw [List.drop_zero] at he
 rw [← he]
 exact Ev.bind ht (Ev.now _)
theorem fitI_l1 (v : List Int) (x : List S26) (m : List (List Int)) (row : List Int) (i : Nat) (y : Int) (rest : Bool) (hrl : row.length = x.length) (hx : x.length ≤ 1000) (hi : i < v.length) (hy : v[i] = y) (hi2 : i ≤ 1000)
  (hend : Ev (fun k => impl_FitsSystem.l0 k v x m (m.length : Int) ((i + 1 : Nat) : Int)) rest) (d : Nat) : ∀ (j : Nat) (a b : Int), row.length - j = d → j ≤ row.length →
  Ev (fun k => impl_FitsSystem.l1 k v x (i : Int) m (m.length : Int) (i : Int) row (row.length : Int) (j : Int) a b) ((dotR (row.drop j) (x.drop j) a b).2.2 && (((dotR (row.drop j) (x.drop j) a b).1 == y) && ((dotR (row.drop j) (x.drop j) a b).2.1 == 1)) && rest) := by
 induction d with
|zero =>
  intro j a b hd hj
  rw [dotR_nil _ _ _ _ (.inl (List.drop_eq_nil_of_le (by omega)))]
  refine Ev.step (f := fun k => if (!(a == y) || !(b == 1)) = true then some false else impl_FitsSystem.l0 k v x m (m.length : Int) ((i + 1 : Nat) : Int)) (fun k => ?_) ?_
  ·simp only [impl_FitsSystem.l1]
   rw [if_neg (by omega), if_pos (by omega), if_pos (by omega), rd_nat v i hi, hy, wrap_id (by omega) (by omega)]
   rfl
  ·by_cases c : (!(a == y) || !(b == 1)) = true
   ·simp only [if_pos c]
    have : ((true && ((a == y) && (b == 1))) && rest) = false := by
     cases h1 : (a == y) <;> cases h2 : (b == 1) <;> simp_all
    rw [this]
    exact Ev.now _
   ·simp only [if_neg c]
    have : ((true && ((a == y) && (b == 1))) && rest) = rest := by
     cases h1 : (a == y) <;> cases h2 : (b == 1) <;> simp_all
    rw [this]
    exact hend
|succ d ih =>
  intro j a b hd hj
  have h1 : j < row.length := by omega
  have h2 : j < x.length := by omega
  rw [List.drop_eq_getElem_cons h1, List.drop_eq_getElem_cons h2]
  refine Ev.step (f := fun k => (impl_TimesRatios.f k row[j] 1 x[j].f0 x[j].f1).bind fun y => (impl_AddRatios.f k a b y.1 y.2.1).bind fun z => if y.2.2 = true then (if z.2.2 = true then impl_FitsSystem.l1 k v x (i : Int) m (m.length : Int) (i : Int) row (row.length : Int) ((j + 1 : Nat) : Int) z.1 z.2.1 else some false) else some false) (fun k => ?_) (Ev.bind (ITimes_ev row[j] 1 x[j].f0 x[j].f1) (Ev.bind (IAdd_ev a b _ _) ?_))
  ·simp only [impl_FitsSystem.l1]
   rw [if_pos (by omega), if_pos (by omega), if_pos (by omega), if_pos (by omega), rd_nat row j h1, rdF x j h2, wrap_id (x := (j : Int) + 1) (by omega) (by omega)]
   rfl
  ·unfold dotR
   by_cases c1 : (timesOf row[j] 1 x[j].f0 x[j].f1).2.2 = true
   ·simp only [if_pos c1]
    by_cases c2 : (addOf a b (timesOf row[j] 1 x[j].f0 x[j].f1).1 (timesOf row[j] 1 x[j].f0 x[j].f1).2.1).2.2 = true
    ·simp only [if_pos c2]
     exact ih (j + 1) _ _ (by omega) (by omega)
    ·simp only [if_neg c2, Bool.false_and]
     exact Ev.now _
   ·simp only [if_neg c1, Bool.false_and]
    exact Ev.now _
theorem zip_drop (m : List (List Int)) (v : List Int) (i : Nat) (h1 : i < m.length) (h2 : i < v.length) : (List.zip m v).drop i = (m[i], v[i]) :: (List.zip m v).drop (i + 1) := by
 rw [List.drop_eq_getElem_cons (by rw [List.length_zip]; omega), List.getElem_zip]
theorem fitI_l0 (m : List (List Int)) (v : List Int) (x : List S26) (hm : ∀ r ∈ m, r.length = x.length) (hv : v.length = m.length) (hx : x.length ≤ 1000) (hml : m.length ≤ 1000) (d : Nat) : ∀ i : Nat, m.length - i = d → i ≤ m.length → Ev (fun k => impl_FitsSystem.l0 k v x m (m.length : Int) (i : Int)) (((List.zip m v).drop i).all (okRow x)) := by
 induction d with
|zero =>
  intro i hd hi
  rw [List.drop_eq_nil_of_le (by rw [List.length_zip];omega)]
  refine Ev.step (f := fun _ => some true) (fun k => ?_) (Ev.now _)
  simp only [impl_FitsSystem.l0]
  rw [if_neg (by omega)]
|succ d ih =>
  intro i hd hi
  have h : i < m.length := by omega
  have h2 : i < v.length := by omega
  rw [zip_drop m v i h h2]
  have := fitI_l1 v x m m[i] i v[i] _ (hm _ (List.getElem_mem h)) hx h2 rfl (by omega) (ih (i + 1) (by omega) (by omega)) m[i].length 0 0 1 (by omega) (by omega)
  rw [List.drop_zero, List.drop_zero] at this
  refine Ev.step (fun k => ?_) this
  simp only [impl_FitsSystem.l0]
  rw [if_pos (by omega), if_pos (by omega), if_pos (by omega), rdL_nat m i h]
  rfl
theorem fitS_l1 (m : List (List Int)) (v : List Int) (x : List S26) (hm : ∀ r ∈ m, r.length = x.length) (hv : v.length = m.length) (hx : x.length ≤ 1000) (hml : m.length ≤ 1000) (d : Nat) : ∀ i : Nat, m.length - i = d → i ≤ m.length → Ev (fun k => spec_FitsSystem.l1 k m v x (i : Int)) (((List.zip m v).drop i).all (okRow x)) := by
 induction d with
|zero =>
  intro i hd hi
  rw [List.drop_eq_nil_of_le (by rw [List.length_zip];omega)]
  refine Ev.step (f := fun _ => some true) (fun k => ?_) (Ev.now _)
  simp only [spec_FitsSystem.l1]
  rw [if_neg (by omega)]
|succ d ih =>
  intro i hd hi
  have h : i < m.length := by omega
  have h2 : i < v.length := by omega
  have hrl := hm _ (List.getElem_mem h)
  rw [zip_drop m v i h h2]
  refine Ev.step (f := fun k => (spec_l6Dot.f k m[i] x).bind fun z => if z.2.2 = true then (if (!(z.1 == v[i]) || !(z.2.1 == 1)) = true then some false else spec_FitsSystem.l1 k m v x ((i + 1 : Nat) : Int)) else some false) (fun k => ?_) (Ev.bind (l6Dot_ev m[i] x (by omega) hx) ?_)
  ·simp only [spec_FitsSystem.l1]
   rw [if_pos (by omega), if_pos (by omega), rdL_nat m i h, wrap_id (by omega) (by omega)]
   simp only [if_pos (show (i : Int) < (v.length : Int) by omega), rd_nat v i h2]
   rfl
  ·rw [List.all_cons]
   show Ev _ (okRow x (m[i], v[i]) && _)
   unfold okRow
   by_cases c1 : (dotR m[i] x 0 1).2.2 = true
   ·simp only [if_pos c1, c1, Bool.true_and]
    by_cases c : (!((dotR m[i] x 0 1).1 == v[i]) || !((dotR m[i] x 0 1).2.1 == 1)) = true
    ·simp only [if_pos c]
     have : ((((dotR m[i] x 0 1).1 == v[i]) && ((dotR m[i] x 0 1).2.1 == 1))) = false := by
      cases h1 : ((dotR m[i] x 0 1).1 == v[i]) <;> cases h2 : ((dotR m[i] x 0 1).2.1 == 1) <;> simp_all
     rw [this, Bool.false_and]
     exact Ev.now _
    ·simp only [if_neg c]
     have : ((((dotR m[i] x 0 1).1 == v[i]) && ((dotR m[i] x 0 1).2.1 == 1))) = true := by
      cases h1 : ((dotR m[i] x 0 1).1 == v[i]) <;> cases h2 : ((dotR m[i] x 0 1).2.1 == 1) <;> simp_all
     rw [this, Bool.true_and]
     exact ih (i + 1) (by omega) (by omega)
   ·simp only [if_neg c1, Bool.eq_false_iff.2 c1, Bool.false_and]
    exact Ev.now _
theorem fitS_l0 (m : List (List Int)) (v : List Int) (x : List S26) (r : Bool) (hx : x.length ≤ 1000) (hend : Ev (fun k => spec_FitsSystem.l1 k m v x 0) r) (d : Nat) : ∀ i : Nat, x.length - i = d → Ev (fun k => spec_FitsSystem.l0 k m v x (i : Int)) (allR (x.drop i) && r) := by
 induction d with
|zero =>
  intro i hd
  rw [List.drop_eq_nil_of_le (by omega)]
  refine Ev.step (fun k => ?_) hend
  simp only [spec_FitsSystem.l0]
  rw [if_neg (by omega)]
|succ d ih =>
  intro i hd
  have h : i < x.length := by omega
  rw [List.drop_eq_getElem_cons h]
  refine Ev.step (f := fun k => (spec_IsRatio.f k x[i].f0 x[i].f1).bind fun t => if t = true then spec_FitsSystem.l0 k m v x ((i + 1 : Nat) : Int) else some false) (fun k => ?_) (Ev.bind (isRS_ev _ _) ?_)
  ·simp only [spec_FitsSystem.l0]
   rw [if_pos (by omega), if_pos (by omega), rdF x i h, wrap_id (by omega) (by omega)]
   rfl
  ·show Ev _ ((List.all (x[i] :: x.drop (i + 1)) fun q => isR q.f0 q.f1) && r)
   rw [List.all_cons]
   by_cases c : isR x[i].f0 x[i].f1 = true
   ·simp only [if_pos c, c, Bool.true_and]
    exact ih (i + 1) (by omega)
   ·simp only [if_neg c, Bool.eq_false_iff.2 c, Bool.false_and]
    exact Ev.now _
theorem sys_rows {m : List (List Int)} {v : List Int} {x : List S26} (h : isSys m v (x.length : Int) = true) : (∀ r ∈ m, r.length = x.length) ∧ v.length = m.length ∧ x.length ≤ 1000 ∧ m.length ≤ 1000 := by
 obtain ⟨h1, h2, _⟩ := (isSys_iff m v _).1 h
 obtain ⟨k1, k2, k3⟩ := (isMat_iff m _).1 h1
 exact ⟨fun r hr => by have := (k3 r hr).1; omega, h2, by omega, by omega⟩
theorem fitI_ev (m : List (List Int)) (v : List Int) (x : List S26) (hm : m.length ≤ 16777216) (hr : ∀ r ∈ m, r.length ≤ 16777216) (hv : v.length ≤ 16777216) (hx : x.length ≤ 16777216) : Ev (fun k => impl_FitsSystem.f k m v x) (fitOf m v x) := by
 have h1 := implSys_ev m v hm hr hv (x.length : Int)
 have hj : Ev (fun k => impl_FitsSystem.j0 k m v x true) false := Ev.step (f := fun _ => some false) (fun k => by simp only [impl_FitsSystem.j0];rw [if_pos trivial]) (Ev.now _)
 unfold impl_FitsSystem.f fitOf
 refine Ev.bind h1 ?_
 cases hb : isSys m v (x.length : Int) with
|false =>
  simp only [Bool.false_eq_true, if_false, Bool.false_and]
  exact hj
|true =>
  simp only [if_true, Bool.true_and]
  refine Ev.bind (contR_ev x hx) ?_
  cases ha : allR x with
 |false =>
   simp only [Bool.not_false, Bool.false_and]
   exact hj
 |true =>
   simp only [Bool.not_true, Bool.true_and]
   obtain ⟨k1, k2, k3, k4⟩ := sys_rows hb
   have := fitI_l0 m v x k1 k2 k3 k4 m.length 0 (by omega) (by omega)
   rw [List.drop_zero] at this
   refine Ev.step (fun k => ?_) this
   simp only [impl_FitsSystem.j0]
   rw [if_neg (by decide)]
   rfl
theorem fitS_ev (m : List (List Int)) (v : List Int) (x : List S26) (hm : m.length ≤ 16777216) (hr : ∀ r ∈ m, r.length ≤ 16777216) (hv : v.length ≤ 16777216) (hx : x.length ≤ 16777216) : Ev (fun k => spec_FitsSystem.f k m v x) (fitOf m v x) := by
 have h1 := specSys_ev m v hm hr hv (x.length : Int)
 unfold spec_FitsSystem.f fitOf
 refine Ev.bind h1 ?_
 cases hb : isSys m v (x.length : Int) with
|false =>
  simp only [Bool.false_eq_true, if_false, Bool.false_and]
  exact Ev.now _
|true =>
  simp only [if_true, Bool.true_and]
  obtain ⟨k1, k2, k3, k4⟩ := sys_rows hb
  have h2 := fitS_l1 m v x k1 k2 k3 k4 m.length 0 (by omega) (by omega)
  rw [List.drop_zero] at h2
  have := fitS_l0 m v x _ k3 h2 x.length 0 (by omega)
  rw [List.drop_zero] at this
  exact this
theorem eqRatioS_l0 (l : List S26) (hl : l.length ≤ 16777216) (d : Nat) : ∀ (i : Nat), l.length - i = d → Ev (fun k => laws_eqRatioS.l0 k l l (i : Int)) true := by
 induction d with
|zero =>
  intro i hd
  refine Ev.step (f := fun _ => some true) (fun k => ?_) (Ev.now true)
  simp only [laws_eqRatioS.l0]
  rw [if_neg (by omega)]
|succ d ih =>
  intro i hd
  have h : i < l.length := by omega
  refine Ev.step (f := fun k => laws_eqRatioS.l0 k l l ((i + 1 : Nat) : Int)) (fun k => ?_) (ih (i + 1) (by omega))
  simp only [laws_eqRatioS.l0]
  rw [if_pos (by omega), if_pos (by omega), if_pos (by omega), wrap_id (by omega) (by omega)]
  simp only [laws_eqRatio.f, if_true, Option.bind_some]
  rfl
theorem eqRatioS_self (l : List S26) (hl : l.length ≤ 16777216) : Ev (fun k => laws_eqRatioS.f k l l) true := by
 refine Ev.congr (f := fun k => laws_eqRatioS.l0 k l l ((0 : Nat) : Int)) (fun k => ?_) (eqRatioS_l0 l hl l.length 0 (by omega))
 unfold laws_eqRatioS.f
 rw [if_pos rfl]
 rfl
theorem toRatioS_l0 (l : List S83) (hl : l.length ≤ 1048576) (d : Nat) : ∀ (i : Nat) (out : List S26), l.length - i = d → i ≤ l.length → out.length = l.length → out.take i = (l.map fun x => (⟨x.f0, x.f1⟩ : S26)).take i → Ev (fun k => laws_toRatioS.l0 k l out (i : Int)) (l.map fun x => (⟨x.f0, x.f1⟩ : S26)) := by
 induction d with
|zero =>
  intro i out hd hi ho ht
  have e : out = l.map fun x => (⟨x.f0, x.f1⟩ : S26) := by
   rw [List.take_of_length_le (by omega), List.take_of_length_le (by rw [List.length_map];omega)] at ht
   exact ht
  rw [e]
  refine Ev.step (f := fun _ => some (l.map fun x => (⟨x.f0, x.f1⟩ : S26))) (fun k => ?_) (Ev.now _)
  simp only [laws_toRatioS.l0]
  rw [if_neg (by omega)]
|succ d ih =>
  intro i out hd hi ho ht
  have h : i < l.length := by omega
  have hr : rd_T83 l (i : Int) = l[i] := by
   unfold rd_T83
   rw [Int.toNat_natCast, List.getD_eq_getElem?_getD, List.getElem?_eq_getElem h]
   rfl
  refine Ev.step (f := fun k => laws_toRatioS.l0 k l (out.set i ⟨l[i].f0, l[i].f1⟩) ((i + 1 : Nat) : Int)) (fun k => ?_) (ih (i + 1) (out.set i ⟨l[i].f0, l[i].f1⟩) (by omega) (by omega) (by simpa using ho) ?_)
  ·simp only [laws_toRatioS.l0, laws_toRatio.f, Option.bind_some]
   rw [if_pos (by omega), if_pos (by omega), if_pos (by omega), hr, Int.toNat_natCast, wrap_id (by omega) (by omega)]
   rfl
  ·rw [List.take_succ_eq_append_getElem (by simp;omega), List.take_set_of_le (Nat.le_refl _), ht, List.getElem_set_self, List.take_succ_eq_append_getElem (by simp;omega), List.getElem_map]
theorem toRatioS_ev (l : List S83) (hl : l.length ≤ 1048576) : Ev (fun k => laws_toRatioS.f k l) (l.map fun x => (⟨x.f0, x.f1⟩ : S26)) := by
 unfold laws_toRatioS.f
 simp only [if_pos (show (0 : Int) ≤ (l.length : Int) by omega), Int.toNat_natCast, if_pos (show l.length ≤ 17592186044416 by omega)]
 exact toRatioS_l0 l hl l.length 0 _ (by omega) (by omega) (by simp) (by simp)
theorem FnExactFitsSystem : ∀ (m : List (List Int)) (v : List Int) (x : List S83), m.length ≤ maxLen → (∀ r ∈ m, r.length ≤ maxLen ∧ ∀ x ∈ r, (Lit.int .i64 x).wf = true) → v.length ≤ maxLen → (∀ x ∈ v, (Lit.int .i64 x).wf = true) → x.length ≤ maxLen → ∃ k, laws_FnExactFitsSystem.f k m v x = some true := by
 intro m v x hlm hw _ _ hlx
 have hm : ∀ r ∈ m, r.length ≤ maxLen := fun r hr => (hw r hr).1
 refine Ev.rounds ?_
 unfold laws_FnExactFitsSystem.f
 by_cases c_v : (v.length : Int) > 1048576
 ·simp only [if_pos c_v];exact Ev.now true
 have b_v : v.length ≤ 1048576 := by omega
 simp only [if_neg c_v]
 obtain ⟨s, hs, hs'⟩ := szSS_ev m hlm hm
 refine Ev.bind hs ?_
 by_cases cs : s < 0
 ·simp only [if_pos cs];exact Ev.now true
 simp only [if_neg cs]
 have hsum := hs' (by omega)
 have b1 : m.length ≤ 1048576 := by omega
 have b2 : ∀ r ∈ m, r.length ≤ 1048576 := fun r hr => by have := len_le_sum m r hr;omega
 have b3 : ∀ r ∈ m, r.length ≤ 16777216 := fun r hr => by have := b2 r hr;omega
 have hz : laws_szRatioS.f x s = some (if s - (x.length : Int) < 0 then -1 else s - (x.length : Int)) := by
  unfold laws_szRatioS.f
  have e : wrap64 (s - (x.length : Int)) = s - (x.length : Int) := by
   unfold maxLen at hlx
   exact wrap_id (by omega) (by omega)
  rw [e]
  split <;> rfl
 simp only [hz, Option.bind_some]
 by_cases cx : s - (x.length : Int) < 0
 ·simp only [if_pos cx, if_pos (show (-1 : Int) < 0 by decide)];exact Ev.now true
 simp only [if_neg cx]
 have b_x : x.length ≤ 1048576 := by omega
 have hI := fitI_ev m v (x.map fun x => (⟨x.f0, x.f1⟩ : S26)) (by omega) b3 (by omega) (by rw [List.length_map];omega)
 have hS := fitS_ev m v (x.map fun x => (⟨x.f0, x.f1⟩ : S26)) (by omega) b3 (by omega) (by rw [List.length_map];omega)
 have hT := toIntSS_ev m b1 b2
 have hV := toIntS_ev v b_v
 have hX := toRatioS_ev x b_x
 refine Ev.bind hT ?_
 refine Ev.bind hV ?_
 refine Ev.bind hX ?_
 refine Ev.bind hS ?_
 refine Ev.bind hT ?_
 refine Ev.bind hV ?_
 refine Ev.bind hX ?_
 refine Ev.bind hI ?_
 simp only [bne_self_eq_false, Bool.false_eq_true, if_false]
 refine Ev.bind hT ?_
 refine Ev.bind (eqIntSS_self m (by omega) b3) ?_
 simp only [if_true]
 refine Ev.bind hV ?_
 refine Ev.bind (eqIntS_self v (by omega)) ?_
 simp only [if_true]
 refine Ev.bind hX ?_
 refine Ev.bind (eqRatioS_self _ (by rw [List.length_map];omega)) ?_
 simp only [if_true]
 exact Ev.now true
end Go.Proofs.Ytojkepidkmkmpaa.Pure
end
section
set_option linter.unusedVariables false
namespace Go.Proofs.Ytojkepidkmkmpaa.Open
open Go.ChangeShapes Go.WideShapes Go.ChangeAt Go.RowKit Go.Deep Go.Proofs.YtojkepidkmkmpaaW.PrintWords
theorem open_SS {H : Type} {enc : TypeId × Value → H} {P : Program} {W : World} {base b0 : Nat} {held : Bool} {rch : Reach} {t e q : TypeId} (ht : P.underlying t = some (.slice e)) (he : P.underlying e = some (.slice q)) (hq : P.underlying q = some (.int .i64))
  (ce : P.cellsOf e = 1) (cq : P.cellsOf q = 1) {v : Value} {d : DataW H} {ps : List MemPlace} (hv : Value.okWide P W rch b0 t v) (h : DataW.Trod enc P W base (fun _ => true) held t v d ps) :
  ∃ (a : Option Addr) (c : Nat) (l : List (List Int)), v = .slice a l.length c ∧ l.length ≤ c ∧ l.length ≤ maxLen ∧ Kd.C (Kd.slice q (Kd.int .i64)) W a l.length l ∧ ∀ r ∈ l, r.length ≤ maxLen ∧ ∀ x ∈ r, (Lit.int .i64 x).wf = true := by
 obtain ⟨a0, len0, cap0, rfl⟩ := okWide_slice ht hv
 obtain ⟨fuel, hf⟩ := h
 rcases open_int_rows ht he hq ce cq hf with ⟨hcs, _⟩|⟨x, len, cap, A, L, C, Z, hcs, _, hl, hm, _, hcell⟩
 ·simp [Value.cells] at hcs
  obtain ⟨rfl, rfl, rfl⟩ := hcs
  exact ⟨none, 0, [], rfl, Nat.le_refl _, Nat.zero_le _, ⟨rfl, by simp, fun h => absurd h (by simp)⟩, by simp⟩
 ·simp [Value.cells] at hcs
  obtain ⟨rfl, rfl, rfl⟩ := hcs
  have hlen : ((List.range len0).map fun r => (Z r).take (L r)).length = len0 := by simp
  refine ⟨some x, cap0, (List.range len0).map fun r => (Z r).take (L r), by rw [hlen], by omega, by omega, ?_, ?_⟩
  ·refine ⟨rfl, by rw [hlen];unfold maxLen at hm;omega, fun _ => ⟨x, rfl, fun j p hj => ?_⟩⟩
   have hj' : j < len0 := by
    have := (List.getElem?_eq_some_iff.1 hj).1
    omega
   obtain ⟨h1, h2, h3, h4, h5, h6, h7⟩ := hcell j (by omega)
   have hp : p = (Z j).take (L j) := by
    rw [List.getElem?_map, List.getElem?_range hj'] at hj
    simpa using hj.symm
   have hpl : p.length = L j := by rw [hp, List.length_take];omega
   refine ⟨[.slice (A j) (L j) (C j)], rfl, ⟨A j, C j, by rw [hpl], by omega, ?_⟩, fun i u hu => ?_⟩
   ·refine Kd.C_of_reads (d := (0 : Int)) (h1 := fun _ => rfl) ⟨rfl, by rw [hpl];unfold maxLen at h3;omega, fun hn => ?_⟩
    cases hA : A j with
   |none => exact absurd (h6 hA) (by omega)
   |some a' =>
     refine ⟨a', rfl, fun i hi => ?_⟩
     rw [(h7 a' hA).2 i (by omega), hp]
     congr 2
     rw [List.getD_eq_getElem?_getD, List.getD_eq_getElem?_getD, List.getElem?_take, if_pos (by omega)]
   ·cases i with
   |zero =>
     simp at hu
     rw [← hu]
     show W.cell? (x.add (j * 1 + 0)) = _
     rw [Nat.mul_one]
     exact h1
   |succ i => simp at hu
  ·intro r hr
   obtain ⟨j, hj, rfl⟩ := List.mem_map.1 hr
   obtain ⟨h1, h2, h3, h4, h5, h6, h7⟩ := hcell j (by have := List.mem_range.1 hj;omega)
   exact ⟨by rw [List.length_take];omega, fun y hy => h5 y (List.mem_of_mem_take hy)⟩
end Go.Proofs.Ytojkepidkmkmpaa.Open
end
section
set_option linter.unusedVariables false
namespace Go.Proofs.Ytojkepidkmkmpaa.Open
open Go.ChangeShapes Go.WideShapes Go.ChangeAt Go.RowKit Go.Deep Go.Proofs.YtojkepidkmkmpaaW.PrintWords
theorem open_RS {H : Type} {enc : TypeId × Value → H} {P : Program} {W : World} {base b0 : Nat} {held : Bool} {rch : Reach} {t e : TypeId} {f0 f1 : Field} (ht : P.underlying t = some (.slice e)) (hs : P.underlying e = some (.struct #[f0, f1])) (hone : oneCellFields P #[f0, f1] = true)
  (h0 : P.underlying f0.type = some (.int .i64)) (h1 : P.underlying f1.type = some (.int .i64)) (ce : P.cellsOf e = 2) {v : Value} {d : DataW H} {ps : List MemPlace} (hv : Value.okWide P W rch b0 t v) (h : DataW.Trod enc P W base (fun _ => true) held t v d ps) :
  ∃ (a : Option Addr) (c : Nat) (l : List (Int × Int)), v = .slice a l.length c ∧ l.length ≤ c ∧ l.length ≤ maxLen ∧ Kd.C (Kd.pair (Kd.int .i64) (Kd.int .i64)) W a l.length l ∧ ∀ x ∈ l, (Lit.int .i64 x.1).wf = true ∧ (Lit.int .i64 x.2).wf = true := by
 obtain ⟨a0, len0, cap0, rfl⟩ := okWide_slice ht hv
 obtain ⟨fuel, hf⟩ := h
 rcases open_slice ht hf with ⟨hcs, _⟩|⟨a, len, cap, m, n, D, Pl, hcs, hb, hl, hm, hmm, _, hx⟩
 ·simp [Value.cells] at hcs
  obtain ⟨rfl, rfl, rfl⟩ := hcs
  exact ⟨none, 0, [], rfl, Nat.le_refl _, Nat.zero_le _, ⟨rfl, by simp, fun h => absurd h (by simp)⟩, by simp⟩
 ·simp [Value.cells] at hcs
  obtain ⟨rfl, rfl, rfl⟩ := hcs
  simp only [if_true] at hmm
  have hmm' := hmm.symm
  subst hmm'
  obtain ⟨o0, k0⟩ := hone_of hone 0 f0 rfl
  obtain ⟨o1, k1⟩ := hone_of hone 1 f1 rfl
  have each : ∀ i, i < len0 → ∃ y : Int × Int, (W.cell? (a.add (i * 2)) = some (.int .i64 y.1) ∧ W.cell? (a.add (i * 2 + 1)) = some (.int .i64 y.2)) ∧ (Lit.int .i64 y.1).wf = true ∧ (Lit.int .i64 y.2).wf = true := by
   intro i hi
   obtain ⟨cs', g1, g2⟩ := hx i (by omega)
   rw [ce] at g1
   obtain ⟨_, hlen, hcell⟩ := World.cells?_some g1
   obtain ⟨y0, y1, n', _, _, q0, q1⟩ := trod_struct2 hs g2
   match cs', hlen with
  |[u0, u1], _ =>
    obtain ⟨n0, e0, _, w0⟩ := DataW.trod_int h0 (by simpa [o0, k0] using q0)
    obtain ⟨n1, e1, _, w1⟩ := DataW.trod_int h1 (by simpa [o1, k1] using q1)
    simp at e0 e1
    subst e0 e1
    refine ⟨(n0, n1), ⟨?_, ?_⟩, w0, w1⟩
    ·have := hcell 0 (by omega)
     rw [Go.Deep.add_add] at this
     simpa using this
    ·have := hcell 1 (by omega)
     rw [Go.Deep.add_add] at this
     simpa using this
  obtain ⟨Y, hY⟩ := choose_lt each
  have hlen : ((List.range len0).map Y).length = len0 := by simp
  refine ⟨some a, cap0, (List.range len0).map Y, by rw [hlen], by omega, by omega, ?_, ?_⟩
  ·refine ⟨rfl, by rw [hlen];unfold maxLen at hm;omega, fun _ => ⟨a, rfl, fun j p hj => ?_⟩⟩
   have hj' : j < len0 := by
    have := (List.getElem?_eq_some_iff.1 hj).1
    omega
   obtain ⟨⟨g1, g2⟩, _, _⟩ := hY j hj'
   have hp : p = Y j := by
    rw [List.getElem?_map, List.getElem?_range hj'] at hj
    simpa using hj.symm
   subst hp
   refine ⟨[.int .i64 (Y j).1, .int .i64 (Y j).2], rfl, ⟨[.int .i64 (Y j).1], [.int .i64 (Y j).2], rfl, rfl, rfl⟩, fun i u hu => ?_⟩
   match i with
  |0 =>
    simp at hu
    rw [← hu]
    exact g1
  |1 =>
    simp at hu
    rw [← hu]
    exact g2
  |i + 2 => simp at hu
  ·intro x hx
   obtain ⟨j, hj, rfl⟩ := List.mem_map.1 hx
   obtain ⟨_, w0, w1⟩ := hY j (by simpa using hj)
   exact ⟨w0, w1⟩
end Go.Proofs.Ytojkepidkmkmpaa.Open
end
section
namespace Go.Proofs.Ytojkepidkmkmpaa.fnExactFitsSystem
open Go.ChangeShapes Go.WideShapes Go.ChangeAt Go.RowKit Go.Proofs.YtojkepidkmkmpaaW.PrintWords
open Go.ChangeMaps (open_string shut_string)
set_option linter.unusedVariables false
theorem own : ownKnob Try.prog.godebug = none := by kernel_rfl
theorem laidOut : laidOutB Try.prog = true := by kernel_rfl
def IsRow (k : IntKind) (w : World) (a : Option Addr) (len cap : Nat) (zs : List Int) : Prop :=
 (a = none ∧ len = 0 ∧ cap = 0 ∧ zs = []) ∨
 ∃ x, a = some x ∧ len ≤ cap ∧ cap ≤ maxLen ∧ zs.length = cap ∧ (∀ i, i < zs.length → w.cell? (x.add i) = some (.int k (zs.getD i 0))) ∧ ∀ n ∈ zs, (Lit.int k n).wf = true
set_option maxRecDepth 100000 in
theorem lifted (os : Os) (started : os.Started) (H : Type) (enc : TypeId × Value → H) :
  ReturnsInHanded {} Try.checked os 8 .any (Rows.fnExactFitsSystemSpec.pre6 enc Try.prog Try.f8 Rows.fnExactFitsSystemRow.domain false) (Rows.fnExactFitsSystemSpec.post enc Try.prog Try.f8 false true false false) := by
 refine returnsInHanded_of_change_sized (C := Try.checked) own started (by kernel_rfl) Try.func8
  (ChangeSpec.witness6 (enc := enc) (C := Try.checked) false ⟨#[], #[.slice none 0 0, .slice none 0 0, .slice none 0 0], []⟩ 8 (by kernel_rfl) (by kernel_rfl) (by kernel_rfl) (by kernel_rfl)) ?_
 intro W base args ds gs before hval0 hW hcnd hsz0 _
 have hval : ∀ (j : Nat) t v, Try.f8.params[j]? = some t → args[j]? = some v → Value.okWide Try.prog W .any base t v := hval0
 have hW' := hW
 obtain ⟨p, q, hA0, hV, rfl, hfz, hnd⟩ := hW
 have hA : DataW.TrodAll enc Try.prog W 0 (fun _ => true) true Try.f8.params.toList args.toList ds p := hA0
 rw [Try.params8] at hA hval
 obtain ⟨v0, vs0, d0, ds0, p0, q0, hargs, rfl, rfl, h0, r0⟩ := trodAll_cons hA
 obtain ⟨v1, vs1, d1, ds1, p1, q1, rfl, rfl, rfl, h1, r1⟩ := trodAll_cons r0
 obtain ⟨v2, vs2, d2, ds2, p2, q2, rfl, rfl, rfl, h2, r2⟩ := trodAll_cons r1
 obtain ⟨rfl, rfl, rfl⟩ := trodAll_nil r2
 obtain rfl : args = #[v0, v1, v2] := by cases args;simp_all
 obtain ⟨rfl, rfl⟩ := trodVars_none hV
 have k0 := h0
 have lt0 : ∀ x ∈ p0, x.block < W.heap.size := by obtain ⟨m, hm⟩ := k0;exact DataW.trod_lt m _ _ _ hm
 obtain ⟨A0, c0, l0, rfl, hc0, hm0, hr0, hw0⟩ := Open.open_SS Try.underlying22 Try.underlying23 Try.underlying3 (by kernel_rfl) (by kernel_rfl) (hval 0 22 v0 rfl rfl) h0
 obtain ⟨A1, len1, c1, rfl⟩ := okWide_slice Try.underlying23 (hval 1 23 v1 rfl rfl)
 have k1 := h1
 have lt1 : ∀ x ∈ p1, x.block < W.heap.size := by obtain ⟨m, hm⟩ := k1;exact DataW.trod_lt m _ _ _ hm
 obtain ⟨z1, wz1⟩ : ∃ zs, IsRow .i64 W A1 len1 c1 zs := by
  obtain ⟨fuel, hf⟩ := h1
  rcases open_ints Try.underlying23 Try.underlying3 (by kernel_rfl) hf with ⟨hcs, _⟩|⟨x, l, c, zs, hcs, _, hl, hm, hz, _, hcell, hwz⟩
  ·simp [Value.cells] at hcs
   obtain ⟨rfl, rfl, rfl⟩ := hcs
   exact ⟨[], .inl ⟨rfl, rfl, rfl, rfl⟩⟩
  ·simp [Value.cells] at hcs
   obtain ⟨rfl, rfl, rfl⟩ := hcs
   exact ⟨zs, .inr ⟨_, rfl, hl, hm, by simpa using hz, hcell, hwz⟩⟩
 obtain ⟨l1, rfl, hr1, hm1, hw1, hc1⟩ := ReadsInt.ofRowC wz1
 have k2 := h2
 have lt2 : ∀ x ∈ p2, x.block < W.heap.size := by obtain ⟨m, hm⟩ := k2;exact DataW.trod_lt m _ _ _ hm
 obtain ⟨A2, c2, L2, rfl, hC2, hM2, hR2, hw2⟩ := Open.open_RS Try.underlying56 Try.underlying83 (by kernel_rfl) Try.underlying3 Try.underlying3 (by kernel_rfl) (hval 2 56 v2 rfl rfl) h2
 obtain ⟨l2, hl2⟩ : ∃ l : List PFnExactFitsSystem.S83, l.map (fun x => (x.f0, x.f1)) = L2 := ⟨L2.map fun x => ⟨x.1, x.2⟩, by rw [List.map_map];exact List.map_id' L2⟩
 subst hl2
 rw [List.length_map] at *
 have hc2 := hC2
 have hm2 := hM2
 have hr2 : Kd.C PFnExactFitsSystem.k83 W A2 l2.length l2 := by
  refine ⟨rfl, hR2.2.1, fun hn => ?_⟩
  obtain ⟨ad, ea, hh⟩ := hR2.2.2 hn
  exact ⟨ad, ea, fun j p hp => hh j (p.f0, p.f1) (by rw [List.getElem?_map, hp];rfl)⟩
 clear hA0 hval0 hsz0
 obtain ⟨k, h⟩ := Pure.FnExactFitsSystem l0 l1 l2 hm0 hw0 hm1 hw1 hm2
 refine (PFnExactFitsSystem.laws_FnExactFitsSystem.calls k A0 c0 l0 A1 c1 l1 A2 c2 l2 true W hr0 hc0 (Kd.C_of_reads (d := (0 : Int)) (h1 := fun _ => rfl) hr1) hc1 hr2 hc2 h).mono fun e W' ⟨he, bel⟩ => ?_
 subst he
 exact ⟨_, rfl, _, _, _, [], _, [], hW', trodAll_mk1 (shut_bool Try.underlying4 _), (trodAll_cons_mk (Below.trod laidOut (by kernel_rfl) (of_decide_eq_true (by kernel_rfl)) k0 bel lt0) (trodAll_cons_mk (Below.trod laidOut (by kernel_rfl) (of_decide_eq_true (by kernel_rfl)) k1 bel lt1) (trodAll_cons_mk (Below.trod laidOut (by kernel_rfl) (of_decide_eq_true (by kernel_rfl)) k2 bel lt2) trodAll_mk0))), rfl, bel.frame _, fun h => by cases h⟩
theorem over : Rows.fnExactFitsSystemRow.holds Try.pinned (OpenSpec.ofChange Rows.fnExactFitsSystemSpec) :=
 OpenClaim.holds_of_wide 8 Try.f8 rfl rfl rfl rfl rfl rfl rfl ⟨rfl, rfl, rfl, rfl, rfl⟩ rfl rfl rfl rfl rfl (by kernel_rfl) Try.func8 (by kernel_rfl)
  (of_decide_eq_true (by kernel_rfl)) (by unfold Func.isWrapper; first | (rw [if_pos (by decide +kernel)]; kernel_rfl) | (rw [if_neg (by decide +kernel)]; exact ⟨rfl, rfl⟩))
  (fun os started H enc _ => lifted os started H enc)
theorem proved : Rows.FnExactFitsSystemSaid := over
#print axioms proved
end Go.Proofs.Ytojkepidkmkmpaa.fnExactFitsSystem
namespace Go.Proofs.Ytojkepidkmkmpaa
theorem fnExactFitsSystem_holds : Rows.FnExactFitsSystemSaid := fnExactFitsSystem.proved
end Go.Proofs.Ytojkepidkmkmpaa
end
