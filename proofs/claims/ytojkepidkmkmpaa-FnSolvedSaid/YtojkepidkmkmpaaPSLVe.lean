/-
  Goes on where the text before it ends.
  Conditions: none beside the given statement's own.
-/
import Derived.Test.YtojkepidkmkmpaaPSLVd
set_option linter.unusedVariables false
set_option linter.unusedSimpArgs false
section
namespace Go.Proofs.Ytojkepidkmkmpaa.PFnSolved
open Go.Proofs.YtojkepidkmkmpaaW.PrintWords.Aside0 renaming mk → aM
open List renaming setIfInBounds_toArray → aQ, set_cons_zero → zQ, set_cons_succ → sQ
open Bool renaming true → tt, false → ff
open Option renaming bind_eq_some_iff → bE

open Go.RowKit Go.Proofs.YtojkepidkmkmpaaW.PrintWords Go.Proofs.YtojkepidkmkmpaaW.PrintLast Go.Proofs.YtojkepidkmkmpaaW.PrintMore
attribute [local go_sem] max2_int min2_int max_two min_two max_three min_three max_four min_four
set_option linter.unusedVariables false
set_option linter.unusedSimpArgs false
mutual
def impl_TwoSolutions.j0 : Nat → List (S26) → List Int → Bool → Option ((List (S26)) × (List (S26)) × Bool)
 | 0, _, _, _ => none
 | k + 1, x9, x11, x33 => if x33 = true then (some (([] : List (S26)), ([] : List (S26)), false)) else (impl_TwoSolutions.l0 k x9 x11 ([] : List (S26)) (x9.length : Int) 0)
def impl_TwoSolutions.l0 : Nat → List (S26) → List Int → List (S26) → Int → Int → Option ((List (S26)) × (List (S26)) × Bool)
 | 0, _, _, _, _, _ => none
 | k + 1, x9, x11, x12, x35, x36 => if x36 < x35 then (if 0 ≤ x36 then (if x36 < (x9.length : Int) then (if x36 < (x11.length : Int) then ((impl_AddRatios.f k ((rd_T26 x9 x36).f0) ((rd_T26 x9 x36).f1) (rd x11 x36) 1).bind fun bt589 => (if bt589.2.2 = true then (if x12.length < 8796093022208 then (impl_TwoSolutions.l0 k x9 x11 (x12 ++ [(⟨bt589.1, bt589.2.1⟩ : S26)]) x35 (wrap64 (x36 + 1))) else (none)) else (some (([] : List (S26)), ([] : List (S26)), false)))) else (none)) else (none)) else (none)) else (some (x9, x12, true))
end
def impl_TwoSolutions.f (k:Nat) (l0:List (List Int)) (l1:List Int) (l2:List Int):Option ((List (S26)) × (List (S26)) × Bool):=(impl_SolutionOf.f k l0 l1 (l2.length:Int)).bind fun bt580=>((impl_NullVector.f k l0 l2).bind fun t584=>(if bt580.2=true then (impl_TwoSolutions.j0 k bt580.1 t584 ((t584.length:Int) == 0)) else (impl_TwoSolutions.j0 k bt580.1 t584 true)))
def impl_TwoSolutions.T9:Bool × List (List Nat × List Nat):=(true,[([],[]),([],[]),([0,1],[0,1]),([2],[2]),([],[]),([],[]),([4,5],[4,5]),([6],[6]),([7],[7]),([3,8],[3,8]),([9],[9]),([10],[10]),([10],[10]),([],[]),([13,11,9,0,1,2,3,4,5,6,7,8,9,10,11,13],[11,13]),([12,14,0,1,2,3,4,5,6,7,8,9,10,11,12,13,14],[12])])
def impl_TwoSolutions.B9:List Nat:=[0,0,3,7,0,0,48,112,240,511,1023,2047,2047,0,12287,32767]
theorem impl_TwoSolutions.tab9:rtab .any (opsOf Try.f29 9)=impl_TwoSolutions.T9:=by kernel_rfl
theorem impl_TwoSolutions.bits9:waitsOk impl_TwoSolutions.T9.2 impl_TwoSolutions.B9=true:=by kernel_rfl
set_option maxHeartbeats 8000000 in
set_option maxRecDepth 100000 in
theorem impl_TwoSolutions.calls (k : Nat) (A0 : Option Addr) (c0 : Nat) (l0 : List (List Int)) (A1 : Option Addr) (c1 : Nat) (l1 : List Int) (A2 : Option Addr) (c2 : Nat) (l2 : List Int) (r1 : List (S26)) (r2 : List (S26)) (r3 : Bool) (w : World) (hr0 : Kd.C (Kd.slice 3 (Kd.int .i64)) w A0 l0.length l0) (hc0 : l0.length ≤ c0) (hr1 : Kd.C (Kd.int .i64) w A1 l1.length l1) (hc1 : l1.length ≤ c1) (hr2 : Kd.C (Kd.int .i64) w A2 l2.length l2) (hc2 : l2.length ≤ c2) (h : impl_TwoSolutions.f k l0 l1 l2 = some (r1, r2, r3)) :
 Calls Try.prog 29 #[.slice A0 l0.length c0, .slice A1 l1.length c1, .slice A2 l2.length c2] w fun e w' => ∃ v0_ v1_ : Value, e = .returned (.tuple #[v0_, v1_, .bool r3]) ∧ Kd.R k26 26 w' w.heap.size (fun k_ => some k_ ≠ (v1_ : Value).ownBlock) v0_ r1 ∧ Kd.R k26 26 w' w.heap.size (fun k_ => some k_ ≠ (v0_ : Value).ownBlock) v1_ r2 ∧ Below w.heap.size w w' := by
 have hu26:=Try.underlying26;have HR0:=aM hr0;have HC0:=aM hc0;clear hr0 hc0;have HR1:=aM hr1;have HC1:=aM hc1;clear hr1 hc1;have HR2:=aM hr2;have HC2:=aM hc2;clear hr2 hc2;have HB:=aM (Below.refl w.heap.size w);have H:((impl_SolutionOf.f k l0 l1 (l2.length:Int)).bind fun bt580=>((impl_NullVector.f k l0 l2).bind fun t584=>(if bt580.2=true then (impl_TwoSolutions.j0 k bt580.1 t584 ((t584.length:Int) == 0)) else (impl_TwoSolutions.j0 k bt580.1 t584 true))))=some (r1,r2,r3):=h;clear h;obtain ⟨⟨t580,t581⟩,A4,H⟩:=bz H;dsimp only at H;obtain ⟨t584,A5,H⟩:=bz H;have HC6:=aM H;clear H;go_enter Try.func29,Try.ntmps29;go_upto_region 3 with (first|((with_reducible refine gate_callee (f:=25) rfl ?_);refine gm (some 21) Try.func25 #[.slice A0 l0.length c0,.slice A1 l1.length c1,.int .i64 (l2.length:Int)] ?_;(with_reducible refine (impl_SolutionOf.calls k _ _ l0 _ _ l1 (l2.length:Int) t580 t581 _ ?side1 ?side2 ?side3 ?side4 A4.out).mono ?_);(case side1=>exact zc HR0.out);(case side2=>exact HC0.out);(case side3=>exact zc HR1.out);(case side4=>exact HC1.out);rintro e w7 ⟨v582,rfl,ho0,hb⟩;refine ⟨_,rfl,?_⟩;have HO583:=aM (Kd.R_lower ho0 (below_size (zb HB.out)));replace HB:=aM (below_step (zb HB.out) hb);(try clear hb);(try clear ho0))|((with_reducible refine gate_callee (f:=42) rfl ?_);refine gm (some 26) Try.func42 #[.slice A0 l0.length c0,.slice A2 l2.length c2] ?_;(with_reducible refine (impl_NullVector.calls k _ _ l0 _ _ l2 t584 _ ?side1 ?side2 ?side3 ?side4 A5.out).mono ?_);(case side1=>exact zc (Kd.C_below HR0.out HB.out));(case side2=>exact HC0.out);(case side3=>exact zc (Kd.C_below HR2.out HB.out));(case side4=>exact HC2.out);rintro e w8 ⟨v585,rfl,ho0,hb⟩;refine ⟨_,rfl,?_⟩;replace HO583:=aM (Kd.R_below (zr HO583.out) hb);have HO586:=aM (Kd.R_lower ho0 (below_size (zb HB.out)));replace HB:=aM (below_step (zb HB.out) hb);(try clear hb);(try clear ho0)))
 (try simp only [Act.put,aQ,zQ,sQ]);go_cut [33] (fun v33 wc=>∃(kq:Nat) (x33_5:Bool),v33 = .bool x33_5∧Aside0 (impl_TwoSolutions.j0 kq t580 t584 x33_5=some (r1,r2,r3))∧Aside0 (kq≤k)∧Aside0 (Kd.R k26 26 wc w.heap.size (fun _=>True) v582 t580)∧Aside0 (Kd.R (Kd.int .i64) 3 wc w.heap.size (fun _=>True) v585 t584)∧Aside0 (Below w.heap.size w wc))
 case first=>
  have H:=HC6.out;clear HC6;by_cases c9:t581=true
  ·subst c9;replace H:=ifT H;have H':=aM H;clear H;obtain ⟨Ao10,co10,eo10⟩:=Kd.R_slice HO586.out;subst eo10;go_wp2;go_meet;(case rel=>exact ⟨_,(((t584.length:Int) == 0)),zt,H',⟨Z40⟩,⟨zr HO583.out⟩,⟨zr HO586.out⟩,⟨zb HB.out⟩⟩)
  ·replace c9:=Bool.eq_false_iff.mpr c9;subst c9;replace H:=ifF H;have H':=aM H;clear H;go_wp2;go_meet;(case rel=>exact ⟨_,(true),zt,H',⟨Z40⟩,⟨zr HO583.out⟩,⟨zr HO586.out⟩,⟨zb HB.out⟩⟩)
 case rest=>
  clear HC6;(try clear c1);(try clear c2);(try clear c9);obtain ⟨kq,x33_5,rfl,HA,HJ5,HO_9,HO_11,HB⟩:=hcut;cases kq with
  | zero=>exact absurd HA.out (by simp [impl_TwoSolutions.j0])
  | succ kj5=>
   have H:=HA.out;clear HA;simp only [impl_TwoSolutions.j0] at H;by_cases c11:x33_5=true
   ·subst c11;replace H:=ifT H;simp only [Option.some.injEq,Prod.mk.injEq] at H;obtain ⟨rfl,rfl,rfl⟩:=H;go_wp2;go_ret3;exact ⟨_,_,Z7,Z21,Z21,zb HB.out⟩
   ·replace c11:=Bool.eq_false_iff.mpr c11;subst c11;replace H:=ifF H;have H':=aM H;clear H;obtain ⟨Ao12,co12,eo12⟩:=Kd.R_slice HO_9.out;subst eo12;go_wp2;go_loopg [12,36] kj5 (fun kq v12 v36 w'=>∃(x12_2:List (S26)) (x36_2:Int),v36 = .int .i64 x36_2∧Aside0 (impl_TwoSolutions.l0 kq t580 t584 x12_2 (t580.length:Int) x36_2=some (r1,r2,r3))∧Aside0 (kq≤kj5)∧Aside0 (Kd.R k26 26 w' w.heap.size (fun k_=>some k_≠(v12:Value).ownBlock) (.slice Ao12 t580.length co12) t580)∧Aside0 (Kd.R (Kd.int .i64) 3 w' w.heap.size (fun _=>True) v585 t584)∧Aside0 (Kd.R k26 26 w' w.heap.size (fun k_=>some k_≠((.slice Ao12 t580.length co12):Value).ownBlock) v12 x12_2)∧Aside0 (Below w.heap.size w w'));(case atStart=>exact ⟨(([]:List (S26))),(0),zt,H',⟨Nat.le_refl _⟩,⟨by (with_reducible repeat (first|apply Kd.R_alloc|apply Kd.R_drewN|apply Kd.R_drew));exact Kd.R_mono HO_9.out (fun _ hk=>(by simp [Value.ownBlock]))⟩,⟨zr HO_11.out⟩,⟨Z21⟩,⟨zb HB.out⟩⟩)
    case round=>
     clear H';(try clear c1);(try clear c2);(try clear c9);(try clear c11);obtain ⟨x12_2,x36_2,rfl,HA,HK2,HO_9,HO_11,HO_12,HB⟩:=hrel;cases gk with
     | zero=>exact absurd HA.out (by simp [impl_TwoSolutions.l0])
     | succ k2=>
      have H:=HA.out;clear HA;simp only [impl_TwoSolutions.l0] at H;by_cases c13:x36_2<(t580.length:Int)
      ·rw [if_pos c13] at H;have c13b0:decide (x36_2<(t580.length:Int))=true:=decide_eq_true c13;clear c13;obtain ⟨c14b0,H⟩:=iN H;obtain ⟨c15b0,H⟩:=iN H;obtain ⟨c16b0,H⟩:=iN H;obtain ⟨⟨t589,t590,t591⟩,A17,H⟩:=bz H;dsimp only at H;by_cases c18:t591=true
       ·subst c18;replace H:=ifT H;by_cases c19:x12_2.length<8796093022208
        ·rw [if_pos c19] at H;have LMc19:=aM c19;clear c19;obtain ⟨y593,hy593⟩:∃y_:List (S26),y_=(x12_2 ++ [(⟨t589,t590⟩:S26)]):=⟨_,rfl⟩;replace H:(impl_TwoSolutions.l0 k2 t580 t584 y593 (t580.length:Int) (wrap64 (x36_2+1)))=some (r1,r2,r3):=(Z2 hy593);have Ny593:=aM hy593;clear hy593;have H':=aM H;clear H;(try go_wp2);replace HO_9:=aM (Kd.R_drew HO_9.out);replace HO_11:=aM (Kd.R_drew HO_11.out);replace HO_12:=aM (Kd.R_drew HO_12.out);replace HB:=aM (below_drew1 HB.out);have p587:0≤(x36_2:Int):=zd;have q587:x36_2<(t580.length:Int):=zd;obtain ⟨ad587,e587,hx587_0,hx587_1⟩:=at_T26 (Kd.R_reads' HO_9.out).2.2 x36_2 p587 q587;cases e587;replace p587:=eq_true p587;replace q587:=eq_true q587;obtain ⟨Ao21,co21,eo21⟩:=Kd.R_slice HO_11.out;(first|subst eo21|(injection eo21 with f1_ f2_ f3_;have f4_:=f1_.symm;have f5_:=f3_.symm;clear f1_ f2_ f3_;subst f4_;subst f5_));have p588:0≤(x36_2:Int):=zd;have q588:x36_2<(t584.length:Int):=zd;obtain ⟨ad588,e588,hx588_0⟩:=Kd.at_int (Kd.R_reads' HO_11.out).2.2 x36_2 p588 q588;cases e588;replace p588:=eq_true p588;replace q588:=eq_true q588;refine start_ (n:=16) (S:=fun w'=>w'.cell? (ad587.add ((x36_2).toNat*2))=some (.int .i64 ((rd_T26 t580 x36_2).f0))∧w'.cell? ⟨(ad587.add ((x36_2).toNat*2)).block,(ad587.add ((x36_2).toNat*2)).off+1,none⟩=some (.int .i64 ((rd_T26 t580 x36_2).f1))∧w'.cell? (ad588.add (x36_2).toNat)=some (.int .i64 (rd t584 x36_2))) (ds:=[]) #[ff,ff,ff,ff,ff,ff,ff,ff,ff,ff,ff,ff,ff,ff,ff,ff] (Z17) rfl rfl ⟨hx587_0,hx587_1,hx588_0⟩ (fun hHeld=>?_);refine with_tabW impl_TwoSolutions.tab9 impl_TwoSolutions.bits9 (fun HT_ HW_=>?_);generalize wr.drew=w20 at HO_9 HO_11 HO_12 HB hx587_0 hx587_1 hx588_0 hHeld ⊢;refine pu 0 (some 40) #[tt,ff,ff,ff,ff,ff,ff,ff,ff,ff,ff,ff,ff,ff,ff,ff] rfl rfl HT_ ?_;refine pu 1 (some 41) #[tt,tt,ff,ff,ff,ff,ff,ff,ff,ff,ff,ff,ff,ff,ff,ff] rfl rfl HT_ ?_;refine pu 2 (some 42) #[tt,tt,tt,ff,ff,ff,ff,ff,ff,ff,ff,ff,ff,ff,ff,ff] rfl rfl HT_ ?_;refine pu 4 (some 44) #[tt,tt,tt,ff,tt,ff,ff,ff,ff,ff,ff,ff,ff,ff,ff,ff] rfl rfl HT_ ?_;refine pu 5 (some 45) #[tt,tt,tt,ff,tt,tt,ff,ff,ff,ff,ff,ff,ff,ff,ff,ff] rfl rfl HT_ ?_;refine pu 6 (some 46) #[tt,tt,tt,ff,tt,tt,tt,ff,ff,ff,ff,ff,ff,ff,ff,ff] rfl rfl HT_ ?_;refine take_ (i:=3) (N:=some 43) (v:=?_) (a':=?_) #[tt,tt,tt,tt,tt,tt,tt,ff,ff,ff,ff,ff,ff,ff,ff,ff] rfl rfl (take_ofW HT_.out HW_.out (Z17)) (fun _ _ _ h=>h) (Or.inl ⟨Z83,?_⟩) hHeld ?_ ?_;rotate_left
         ·rintro w' ⟨s0,s1,s2⟩;go_simp;(with_reducible rfl)
         rotate_left
         ·simp only [Act.put,aQ,zQ,sQ,i64_w,i32_w];rfl
         refine take_ (i:=7) (N:=some 47) (v:=?_) (a':=?_) #[tt,tt,tt,tt,tt,tt,tt,tt,ff,ff,ff,ff,ff,ff,ff,ff] rfl rfl (take_ofW HT_.out HW_.out (Z17)) (fun _ _ _ h=>h) (Or.inl ⟨Z83,?_⟩) hHeld ?_ ?_;rotate_left
         ·rintro w' ⟨s0,s1,s2⟩;go_simp;(with_reducible rfl)
         rotate_left
         ·simp only [Act.put,aQ,zQ,sQ,i64_w,i32_w];rfl
         refine pu 8 (some 48) #[tt,tt,tt,tt,tt,tt,tt,tt,tt,ff,ff,ff,ff,ff,ff,ff] rfl rfl HT_ ?_;refine join_ (σ:=Nat) 2 #[tt,tt,tt,tt,tt,tt,tt,tt,tt,tt,tt,tt,tt,tt,ff,ff] (fun s_=>[(49,.tuple #[.agg #[.int .i64 t589,.int .i64 t590],.bool true]),(14,.pointer (some ⟨s_,0,none⟩)),(39,.tuple #[.agg #[.int .i64 t589,.int .i64 t590],.bool true]),(50,.agg #[.int .i64 t589,.int .i64 t590]),(51,.bool true)]) (fun s_ w'=>(w'.cell? (ad587.add ((x36_2).toNat*2))=some (.int .i64 ((rd_T26 t580 x36_2).f0))∧w'.cell? ⟨(ad587.add ((x36_2).toNat*2)).block,(ad587.add ((x36_2).toNat*2)).off+1,none⟩=some (.int .i64 ((rd_T26 t580 x36_2).f1))∧w'.cell? (ad588.add (x36_2).toNat)=some (.int .i64 (rd t584 x36_2)))∧(Kd.R (Kd.int .i64) 3 w' w.heap.size (fun _=>True) (.slice (some ad588) t584.length co21) t584)∧(Kd.R k26 26 w' w.heap.size (fun k_=>some k_≠(.slice (some ad587) t580.length co12:Value).ownBlock∧k_≠s_) u12 x12_2)∧(Kd.R k26 26 w' w.heap.size (fun k_=>some k_≠(u12:Value).ownBlock∧k_≠s_) (.slice (some ad587) t580.length co12) t580)∧(w'.heap[s_]?=some (.cells #[.int .i64 0,.int .i64 0] 26 (0,0)))∧(w.heap.size≤s_)∧(w.heap.size≤s_)∧(Below w.heap.size w w')) ?_ ?_;rotate_left
         ·intro hCont;refine two_ (i:=9) (j:=13) (Ni:=some 49) (Nj:=some 14) #[tt,tt,tt,tt,tt,tt,tt,tt,tt,tt,ff,ff,ff,ff,ff,ff] #[tt,tt,tt,tt,tt,tt,tt,tt,tt,ff,ff,ff,ff,tt,ff,ff] rfl rfl rfl rfl (two_of HT_.out (Z17)) (Z19) (Z19) (fun K hK=>?_) (fun K hK=>?_)
          ·skip
           refine gs Try.func76 #[.agg #[.int .i64 ((rd_T26 t580 x36_2).f0),.int .i64 ((rd_T26 t580 x36_2).f1)],.agg #[.int .i64 (rd t584 x36_2),.int .i64 1]] ?_;(with_reducible refine (impl_AddRatios.calls k2 ((rd_T26 t580 x36_2).f0) ((rd_T26 t580 x36_2).f1) (rd t584 x36_2) 1 t589 t590 true _ A17.out).mono ?_);rintro e w22 ⟨rfl,hb⟩;have HS0_:=(hb.cell (World.block_lt_of_cell? _ _ (hHeld.1))).trans (hHeld.1);have HS1_:=(hb.cell (World.block_lt_of_cell? _ _ (hHeld.2.1))).trans (hHeld.2.1);have HS2_:=(hb.cell (World.block_lt_of_cell? _ _ (hHeld.2.2))).trans (hHeld.2.2);refine ⟨_,rfl,?_⟩;replace HO_9:=aM (Kd.R_below (zr HO_9.out) hb);replace HO_11:=aM (Kd.R_below (zr HO_11.out) hb);replace HO_12:=aM (Kd.R_below (zr HO_12.out) hb);replace HB:=aM (below_step (zb HB.out) hb);(try clear hb);(try clear hk);refine hK.out _ _ ⟨HS0_,HS1_,HS2_⟩ (fun hHeld=>?_);clear hK K;refine norm_ (a':=?_) ?_ ?_;rotate_left
           ·show Act.put _ (some 49) _=_;simp only [Act.put,aQ,zQ,sQ,i64_w,i32_w];rfl
           refine pu 10 (some 39) #[tt,tt,tt,tt,tt,tt,tt,tt,tt,tt,tt,ff,ff,ff,ff,ff] rfl rfl HT_ ?_;refine pu 11 (some 50) #[tt,tt,tt,tt,tt,tt,tt,tt,tt,tt,tt,tt,ff,ff,ff,ff] rfl rfl HT_ ?_;refine pu 12 (some 51) #[tt,tt,tt,tt,tt,tt,tt,tt,tt,tt,tt,tt,tt,ff,ff,ff] rfl rfl HT_ ?_;refine one_ (i:=13) (N:=some 14) #[tt,tt,tt,tt,tt,tt,tt,tt,tt,tt,tt,tt,tt,tt,ff,ff] rfl rfl (one_of HT_.out (Z17)) (Z19) (fun K hK=>?_);refine box_step ?hg (N:=14) ?hd (cs:=#[.int .i64 0,.int .i64 0]) (t:=26) ?hr ?_;(case hd=>rfl);(case hg=>rfl);(case hr=>exact (Z9));intro gb592 hg w23 hbox hb;have HS0_:=(hb.cell (World.block_lt_of_cell? _ _ (hHeld.1))).trans (hHeld.1);have HS1_:=(hb.cell (World.block_lt_of_cell? _ _ (hHeld.2.1))).trans (hHeld.2.1);have HS2_:=(hb.cell (World.block_lt_of_cell? _ _ (hHeld.2.2))).trans (hHeld.2.2);replace HO_9:=aM (Kd.R_below (Kd.R_elderB (zr HO_9.out) gb592 (Nat.le_of_eq hg.symm)) hb);replace HO_11:=aM (Kd.R_below (zr HO_11.out) hb);replace HO_12:=aM (Kd.R_below (Kd.R_elderB (zr HO_12.out) gb592 (Nat.le_of_eq hg.symm)) hb);have BK592:=aM (hbox);have GW592:=aM ((zg hg (zb HB.out)));have GE592:=aM ((zg hg (zb HB.out)));replace HB:=aM (below_step (zb HB.out) hb);clear hb hbox hg;refine hK.out _ _ ⟨HS0_,HS1_,HS2_⟩ (fun hHeld=>?_);clear hK K;refine norm_ (a':=?_) ?_ ?_;rotate_left
           ·show Act.put _ (some 14) _=_;simp only [Act.put,aQ,zQ,sQ,i64_w,i32_w];rfl
           exact norm_ (Z41) (hCont (gb592) _ ⟨hHeld,(zr HO_11.out),(zr HO_12.out),(zr HO_9.out),(zk BK592.out),GW592.out,GE592.out,(zs HB.out)⟩)
          ·skip
           refine box_step ?hg (N:=14) ?hd (cs:=#[.int .i64 0,.int .i64 0]) (t:=26) ?hr ?_;(case hd=>rfl);(case hg=>rfl);(case hr=>exact (Z9));intro gb592 hg w22 hbox hb;have HS0_:=(hb.cell (World.block_lt_of_cell? _ _ (hHeld.1))).trans (hHeld.1);have HS1_:=(hb.cell (World.block_lt_of_cell? _ _ (hHeld.2.1))).trans (hHeld.2.1);have HS2_:=(hb.cell (World.block_lt_of_cell? _ _ (hHeld.2.2))).trans (hHeld.2.2);replace HO_9:=aM (Kd.R_below (Kd.R_elderB (zr HO_9.out) gb592 (Nat.le_of_eq hg.symm)) hb);replace HO_11:=aM (Kd.R_below (zr HO_11.out) hb);replace HO_12:=aM (Kd.R_below (Kd.R_elderB (zr HO_12.out) gb592 (Nat.le_of_eq hg.symm)) hb);have BK592:=aM (hbox);have GW592:=aM ((zg hg (zb HB.out)));have GE592:=aM ((zg hg (zb HB.out)));replace HB:=aM (below_step (zb HB.out) hb);clear hb hbox hg;refine hK.out _ _ ⟨HS0_,HS1_,HS2_⟩ (fun hHeld=>?_);clear hK K;refine norm_ (a':=?_) ?_ ?_;rotate_left
           ·show Act.put _ (some 14) _=_;simp only [Act.put,aQ,zQ,sQ,i64_w,i32_w];rfl
           refine one_ (i:=9) (N:=some 49) #[tt,tt,tt,tt,tt,tt,tt,tt,tt,tt,ff,ff,ff,tt,ff,ff] rfl rfl (one_of HT_.out (Z17)) (Z19) (fun K hK=>?_);refine gs Try.func76 #[.agg #[.int .i64 ((rd_T26 t580 x36_2).f0),.int .i64 ((rd_T26 t580 x36_2).f1)],.agg #[.int .i64 (rd t584 x36_2),.int .i64 1]] ?_;(with_reducible refine (impl_AddRatios.calls k2 ((rd_T26 t580 x36_2).f0) ((rd_T26 t580 x36_2).f1) (rd t584 x36_2) 1 t589 t590 true _ A17.out).mono ?_);rintro e w23 ⟨rfl,hb⟩;have HS0_:=(hb.cell (World.block_lt_of_cell? _ _ (hHeld.1))).trans (hHeld.1);have HS1_:=(hb.cell (World.block_lt_of_cell? _ _ (hHeld.2.1))).trans (hHeld.2.1);have HS2_:=(hb.cell (World.block_lt_of_cell? _ _ (hHeld.2.2))).trans (hHeld.2.2);refine ⟨_,rfl,?_⟩;replace HO_9:=aM (Kd.R_below (zr HO_9.out) hb);replace HO_11:=aM (Kd.R_below (zr HO_11.out) hb);replace HO_12:=aM (Kd.R_below (zr HO_12.out) hb);replace BK592:=aM (blk_below (g:=gb592) (o:=.cells #[.int .i64 0,.int .i64 0] 26 (0,0)) (zk BK592.out) hb);replace HB:=aM (below_step (zs HB.out) hb);(try clear hb);(try clear hk);refine hK.out _ _ ⟨HS0_,HS1_,HS2_⟩ (fun hHeld=>?_);clear hK K;refine norm_ (a':=?_) ?_ ?_;rotate_left
           ·show Act.put _ (some 49) _=_;simp only [Act.put,aQ,zQ,sQ,i64_w,i32_w];rfl
           refine pu 10 (some 39) #[tt,tt,tt,tt,tt,tt,tt,tt,tt,tt,tt,ff,ff,tt,ff,ff] rfl rfl HT_ ?_;refine pu 11 (some 50) #[tt,tt,tt,tt,tt,tt,tt,tt,tt,tt,tt,tt,ff,tt,ff,ff] rfl rfl HT_ ?_;refine pu 12 (some 51) #[tt,tt,tt,tt,tt,tt,tt,tt,tt,tt,tt,tt,tt,tt,ff,ff] rfl rfl HT_ ?_;exact norm_ (Z41) (hCont (gb592) _ ⟨hHeld,(zr HO_11.out),(zr HO_12.out),(zr HO_9.out),(zk BK592.out),GW592.out,GE592.out,(zs HB.out)⟩)
         rintro gb592 w24 ⟨hS_,h0_,h1_,h2_,h3_,h4_,h5_,h6_⟩;replace HO_11:Aside0 (Kd.R (Kd.int .i64) 3 w24 w.heap.size (fun _=>True) (.slice (some ad588) t584.length co21) t584):=⟨h0_⟩;replace HO_12:Aside0 (Kd.R k26 26 w24 w.heap.size (fun k_=>some k_≠(.slice (some ad587) t580.length co12:Value).ownBlock∧k_≠gb592) u12 x12_2):=⟨h1_⟩;replace HO_9:Aside0 (Kd.R k26 26 w24 w.heap.size (fun k_=>some k_≠(u12:Value).ownBlock∧k_≠gb592) (.slice (some ad587) t580.length co12) t580):=⟨h2_⟩;have BK592:Aside0 (w24.heap[gb592]?=some (.cells #[.int .i64 0,.int .i64 0] 26 (0,0))):=⟨h3_⟩;have GW592:Aside0 (w.heap.size≤gb592):=⟨h4_⟩;have GE592:Aside0 (w.heap.size≤gb592):=⟨h5_⟩;replace HB:Aside0 (Below w.heap.size w w24):=⟨h6_⟩;clear h0_ h1_ h2_ h3_ h4_ h5_ h6_;have hHeld:w24.cell? (ad587.add ((x36_2).toNat*2))=some (.int .i64 ((rd_T26 t580 x36_2).f0))∧w24.cell? ⟨(ad587.add ((x36_2).toNat*2)).block,(ad587.add ((x36_2).toNat*2)).off+1,none⟩=some (.int .i64 ((rd_T26 t580 x36_2).f1))∧w24.cell? (ad588.add (x36_2).toNat)=some (.int .i64 (rd t584 x36_2)):=hS_;refine norm_ (a':=?_) ?_ ?_;rotate_left
         ·simp only [putAll,Act.put,aQ,zQ,sQ];rfl
         refine one_ (i:=14) (N:=none) #[tt,tt,tt,tt,tt,tt,tt,tt,tt,tt,tt,tt,tt,tt,tt,ff] rfl rfl (one_of HT_.out (Z17)) (Z19) (fun K hK=>?_);have hs25:w24.cell? ⟨gb592,0,none⟩=some (.int .i64 0):=(blk_cell BK592.out 0).trans rfl;have hfs25:=blk_frozen BK592.out 0;have hs26:w24.cell? ⟨gb592,1,none⟩=some (.int .i64 0):=(blk_cell BK592.out 1).trans rfl;have hfs26:=blk_frozen BK592.out 1;refine skip_ (w1:=?_) (Z83) rfl ?_ ?_;rotate_left
         ·go_simp;rfl
         refine hK.out _ _ ⟨((cell_far (p:=⟨gb592,_,none⟩) (Z16 HO_9.out) _).trans (((cell_far (p:=⟨gb592,_,none⟩) (Z16 HO_9.out) _).trans (hHeld.1)))),((cell_far (p:=⟨gb592,_,none⟩) (Z16 HO_9.out) _).trans (((cell_far (p:=⟨gb592,_,none⟩) (Z16 HO_9.out) _).trans (hHeld.2.1)))),((cell_far (p:=⟨gb592,_,none⟩) (Z44 HO_11.out BK592.out) _).trans (((cell_far (p:=⟨gb592,_,none⟩) (Z44 HO_11.out BK592.out) _).trans (hHeld.2.2))))⟩ (fun hHeld=>?_);clear hK K;refine pu 15 (some 15) #[tt,tt,tt,tt,tt,tt,tt,tt,tt,tt,tt,tt,tt,tt,tt,tt] rfl rfl HT_ ?_;refine done_ (done_of HT_.out (Z17)) ?_;have hcz27_0:w24.cell? ⟨gb592,0,none⟩=some (.int .i64 0):=(blk_cell BK592.out 0).trans rfl;have hcz27_1:w24.cell? ⟨gb592,1,none⟩=some (.int .i64 0):=(blk_cell BK592.out 1).trans rfl;have hfz27_0:=blk_frozen BK592.out 0;have hfz27_1:=blk_frozen BK592.out 1;(try go_wp2_with (first|((with_reducible refine gate_builtin (b:=.append) (xs:=#[.tmp 54,.tmp 56]) rfl ?_);(try (refine gate_guard (Z83) ?_;dsimp only));at_builtin;refine Kd.R_append k26 (w0:=w) w.heap.size rfl (.tmp 54) (.tmp 56) 39 26 (.agg #[(.int .i64 0),(.int .i64 0)]) 16 rfl Try.underlying39 info26 rfl (Z19) (Z47) u12 x12_2 (⟨t589,t590⟩:S26) [.int .i64 t589,.int .i64 t590] (fun k_=>some k_≠(.slice (some ad587) t580.length co12:Value).ownBlock∧k_≠gb592) (fun _=>False) rfl (Z9) ?aP (fun _ hk=>hk.elim) ?aF ?aO ?aB ?aS ?aL ?_;(case aP=>exact k26_mkM _ _ _ (⟨t589,t590⟩:S26));(case aB=>exact (zs HB.out));(case aF=>exact (fun k_ hk=>⟨Kd.fresh' (Kd.R_lt (Z57 HO_9.out)) k_ hk,Kd.freshB (g:=gb592) (o:=.cells #[.int .i64 t589,.int .i64 t590] 26 (0,0)) (Z52 BK592.out) k_ hk⟩));(case aO=>exact (by (with_reducible repeat (first|apply Kd.R_alloc|apply Kd.R_drewN|apply Kd.R_drew));exact Kd.R_mono (Kd.R_far (p:=⟨gb592,1,none⟩) (Kd.R_far (p:=⟨gb592,0,none⟩) (Kd.R_mono HO_12.out (fun k_ hk=>(⟨hk,hk.2⟩:_∧k_≠gb592))) (fun _ hk=>hk.2) (.int .i64 t589)) (fun _ hk=>hk.2) (.int .i64 t590)) (fun _ hk=>⟨hk.1.1,hk.1.2⟩)));(case aS=>exact (below_size (zs HB.out)));(case aL=>have:=LMc19.out;omega);intro v594 w28 ho hb hg hat;rw [← Ny593.out] at ho;replace HO_9:=aM (Kd.R_after (ok:=(fun k_=>k_≠gb592)) (by (with_reducible repeat (first|apply Kd.R_alloc|apply Kd.R_drewN|apply Kd.R_drew));exact Kd.R_mono (Kd.R_far (p:=⟨gb592,1,none⟩) (Kd.R_far (p:=⟨gb592,0,none⟩) (Kd.R_mono HO_9.out (fun k_ hk=>(⟨hk,hk.2⟩:_∧k_≠gb592))) (fun _ hk=>hk.2) (.int .i64 t589)) (fun _ hk=>hk.2) (.int .i64 t590)) (fun _ hk=>⟨hk.1.2,hk.1.1⟩)) hg hat);replace HO_11:=aM (Kd.R_over' (by (with_reducible repeat (first|apply Kd.R_alloc|apply Kd.R_drewN|apply Kd.R_drew));exact (Kd.R_mono (Kd.R_far (p:=⟨gb592,1,none⟩) (Kd.R_far (p:=⟨gb592,0,none⟩) (Kd.R_types HO_11.out BK592.out (Z19)) (fun _ hk=>hk.2) (.int .i64 t589)) (fun _ hk=>hk.2) (.int .i64 t590)) (fun _ h_=>h_.1))) (Kd.R_typed (Z57 HO_12.out)) (Z19) hg);replace BK592:=aM (blk_grown (g:=gb592) (o:=.cells #[.int .i64 t589,.int .i64 t590] 26 (0,0)) (Z52 BK592.out) hg (Kd.R_away HO_12.out (fun _ hk=>hk.2)));replace HB:=aM (hb);have HO595:=aM (ho);clear HO_12 ho hb hg hat)));go_roundg k2;(case measure=>have:=HJ5.out;have:=HK2.out;omega);(case rel=>exact ⟨(y593),(wrap64 (x36_2+1)),zt,H',⟨Z87 HJ5.out HK2.out⟩,⟨Z22 HO_9.out⟩,⟨zr HO_11.out⟩,⟨Z76 HO595.out⟩,⟨zs HB.out⟩⟩)
        ·rw [if_neg c19] at H;exact absurd H (Z81)
       ·replace c18:=Bool.eq_false_iff.mpr c18;subst c18;replace H:=ifF H;simp only [Option.some.injEq,Prod.mk.injEq] at H;obtain ⟨rfl,rfl,rfl⟩:=H;(try go_wp2);replace HO_9:=aM (Kd.R_drew HO_9.out);replace HO_11:=aM (Kd.R_drew HO_11.out);replace HO_12:=aM (Kd.R_drew HO_12.out);replace HB:=aM (below_drew1 HB.out);have p587:0≤(x36_2:Int):=zd;have q587:x36_2<(t580.length:Int):=zd;obtain ⟨ad587,e587,hx587_0,hx587_1⟩:=at_T26 (Kd.R_reads' HO_9.out).2.2 x36_2 p587 q587;cases e587;replace p587:=eq_true p587;replace q587:=eq_true q587;obtain ⟨Ao30,co30,eo30⟩:=Kd.R_slice HO_11.out;(first|subst eo30|(injection eo30 with f1_ f2_ f3_;have f4_:=f1_.symm;have f5_:=f3_.symm;clear f1_ f2_ f3_;subst f4_;subst f5_));have p588:0≤(x36_2:Int):=zd;have q588:x36_2<(t584.length:Int):=zd;obtain ⟨ad588,e588,hx588_0⟩:=Kd.at_int (Kd.R_reads' HO_11.out).2.2 x36_2 p588 q588;cases e588;replace p588:=eq_true p588;replace q588:=eq_true q588;refine start_ (n:=16) (S:=fun w'=>w'.cell? (ad587.add ((x36_2).toNat*2))=some (.int .i64 ((rd_T26 t580 x36_2).f0))∧w'.cell? ⟨(ad587.add ((x36_2).toNat*2)).block,(ad587.add ((x36_2).toNat*2)).off+1,none⟩=some (.int .i64 ((rd_T26 t580 x36_2).f1))∧w'.cell? (ad588.add (x36_2).toNat)=some (.int .i64 (rd t584 x36_2))) (ds:=[]) #[ff,ff,ff,ff,ff,ff,ff,ff,ff,ff,ff,ff,ff,ff,ff,ff] (Z17) rfl rfl ⟨hx587_0,hx587_1,hx588_0⟩ (fun hHeld=>?_);refine with_tabW impl_TwoSolutions.tab9 impl_TwoSolutions.bits9 (fun HT_ HW_=>?_);generalize wr.drew=w29 at HO_9 HO_11 HO_12 HB hx587_0 hx587_1 hx588_0 hHeld ⊢;refine pu 0 (some 40) #[tt,ff,ff,ff,ff,ff,ff,ff,ff,ff,ff,ff,ff,ff,ff,ff] rfl rfl HT_ ?_;refine pu 1 (some 41) #[tt,tt,ff,ff,ff,ff,ff,ff,ff,ff,ff,ff,ff,ff,ff,ff] rfl rfl HT_ ?_;refine pu 2 (some 42) #[tt,tt,tt,ff,ff,ff,ff,ff,ff,ff,ff,ff,ff,ff,ff,ff] rfl rfl HT_ ?_;refine pu 4 (some 44) #[tt,tt,tt,ff,tt,ff,ff,ff,ff,ff,ff,ff,ff,ff,ff,ff] rfl rfl HT_ ?_;refine pu 5 (some 45) #[tt,tt,tt,ff,tt,tt,ff,ff,ff,ff,ff,ff,ff,ff,ff,ff] rfl rfl HT_ ?_;refine pu 6 (some 46) #[tt,tt,tt,ff,tt,tt,tt,ff,ff,ff,ff,ff,ff,ff,ff,ff] rfl rfl HT_ ?_;refine take_ (i:=3) (N:=some 43) (v:=?_) (a':=?_) #[tt,tt,tt,tt,tt,tt,tt,ff,ff,ff,ff,ff,ff,ff,ff,ff] rfl rfl (take_ofW HT_.out HW_.out (Z17)) (fun _ _ _ h=>h) (Or.inl ⟨Z83,?_⟩) hHeld ?_ ?_;rotate_left
        ·rintro w' ⟨s0,s1,s2⟩;go_simp;(with_reducible rfl)
        rotate_left
        ·simp only [Act.put,aQ,zQ,sQ,i64_w,i32_w];rfl
        refine take_ (i:=7) (N:=some 47) (v:=?_) (a':=?_) #[tt,tt,tt,tt,tt,tt,tt,tt,ff,ff,ff,ff,ff,ff,ff,ff] rfl rfl (take_ofW HT_.out HW_.out (Z17)) (fun _ _ _ h=>h) (Or.inl ⟨Z83,?_⟩) hHeld ?_ ?_;rotate_left
        ·rintro w' ⟨s0,s1,s2⟩;go_simp;(with_reducible rfl)
        rotate_left
        ·simp only [Act.put,aQ,zQ,sQ,i64_w,i32_w];rfl
        refine pu 8 (some 48) #[tt,tt,tt,tt,tt,tt,tt,tt,tt,ff,ff,ff,ff,ff,ff,ff] rfl rfl HT_ ?_;refine join_ (σ:=Nat) 2 #[tt,tt,tt,tt,tt,tt,tt,tt,tt,tt,tt,tt,tt,tt,ff,ff] (fun s_=>[(49,.tuple #[.agg #[.int .i64 t589,.int .i64 t590],.bool false]),(14,.pointer (some ⟨s_,0,none⟩)),(39,.tuple #[.agg #[.int .i64 t589,.int .i64 t590],.bool false]),(50,.agg #[.int .i64 t589,.int .i64 t590]),(51,.bool false)]) (fun s_ w'=>(w'.cell? (ad587.add ((x36_2).toNat*2))=some (.int .i64 ((rd_T26 t580 x36_2).f0))∧w'.cell? ⟨(ad587.add ((x36_2).toNat*2)).block,(ad587.add ((x36_2).toNat*2)).off+1,none⟩=some (.int .i64 ((rd_T26 t580 x36_2).f1))∧w'.cell? (ad588.add (x36_2).toNat)=some (.int .i64 (rd t584 x36_2)))∧(Kd.R (Kd.int .i64) 3 w' w.heap.size (fun _=>True) (.slice (some ad588) t584.length co30) t584)∧(Kd.R k26 26 w' w.heap.size (fun k_=>some k_≠(.slice (some ad587) t580.length co12:Value).ownBlock∧k_≠s_) u12 x12_2)∧(Kd.R k26 26 w' w.heap.size (fun k_=>some k_≠(u12:Value).ownBlock∧k_≠s_) (.slice (some ad587) t580.length co12) t580)∧(w'.heap[s_]?=some (.cells #[.int .i64 0,.int .i64 0] 26 (0,0)))∧(w.heap.size≤s_)∧(w.heap.size≤s_)∧(Below w.heap.size w w')) ?_ ?_;rotate_left
        ·intro hCont;refine two_ (i:=9) (j:=13) (Ni:=some 49) (Nj:=some 14) #[tt,tt,tt,tt,tt,tt,tt,tt,tt,tt,ff,ff,ff,ff,ff,ff] #[tt,tt,tt,tt,tt,tt,tt,tt,tt,ff,ff,ff,ff,tt,ff,ff] rfl rfl rfl rfl (two_of HT_.out (Z17)) (Z19) (Z19) (fun K hK=>?_) (fun K hK=>?_)
         ·skip
          refine gs Try.func76 #[.agg #[.int .i64 ((rd_T26 t580 x36_2).f0),.int .i64 ((rd_T26 t580 x36_2).f1)],.agg #[.int .i64 (rd t584 x36_2),.int .i64 1]] ?_;(with_reducible refine (impl_AddRatios.calls k2 ((rd_T26 t580 x36_2).f0) ((rd_T26 t580 x36_2).f1) (rd t584 x36_2) 1 t589 t590 false _ A17.out).mono ?_);rintro e w31 ⟨rfl,hb⟩;have HS0_:=(hb.cell (World.block_lt_of_cell? _ _ (hHeld.1))).trans (hHeld.1);have HS1_:=(hb.cell (World.block_lt_of_cell? _ _ (hHeld.2.1))).trans (hHeld.2.1);have HS2_:=(hb.cell (World.block_lt_of_cell? _ _ (hHeld.2.2))).trans (hHeld.2.2);refine ⟨_,rfl,?_⟩;replace HO_9:=aM (Kd.R_below (zr HO_9.out) hb);replace HO_11:=aM (Kd.R_below (zr HO_11.out) hb);replace HO_12:=aM (Kd.R_below (zr HO_12.out) hb);replace HB:=aM (below_step (zb HB.out) hb);(try clear hb);(try clear hk);refine hK.out _ _ ⟨HS0_,HS1_,HS2_⟩ (fun hHeld=>?_);clear hK K;refine norm_ (a':=?_) ?_ ?_;rotate_left
          ·show Act.put _ (some 49) _=_;simp only [Act.put,aQ,zQ,sQ,i64_w,i32_w];rfl
          refine pu 10 (some 39) #[tt,tt,tt,tt,tt,tt,tt,tt,tt,tt,tt,ff,ff,ff,ff,ff] rfl rfl HT_ ?_;refine pu 11 (some 50) #[tt,tt,tt,tt,tt,tt,tt,tt,tt,tt,tt,tt,ff,ff,ff,ff] rfl rfl HT_ ?_;refine pu 12 (some 51) #[tt,tt,tt,tt,tt,tt,tt,tt,tt,tt,tt,tt,tt,ff,ff,ff] rfl rfl HT_ ?_;refine one_ (i:=13) (N:=some 14) #[tt,tt,tt,tt,tt,tt,tt,tt,tt,tt,tt,tt,tt,tt,ff,ff] rfl rfl (one_of HT_.out (Z17)) (Z19) (fun K hK=>?_);refine box_step ?hg (N:=14) ?hd (cs:=#[.int .i64 0,.int .i64 0]) (t:=26) ?hr ?_;(case hd=>rfl);(case hg=>rfl);(case hr=>exact (Z9));intro gb592 hg w32 hbox hb;have HS0_:=(hb.cell (World.block_lt_of_cell? _ _ (hHeld.1))).trans (hHeld.1);have HS1_:=(hb.cell (World.block_lt_of_cell? _ _ (hHeld.2.1))).trans (hHeld.2.1);have HS2_:=(hb.cell (World.block_lt_of_cell? _ _ (hHeld.2.2))).trans (hHeld.2.2);replace HO_9:=aM (Kd.R_below (Kd.R_elderB (zr HO_9.out) gb592 (Nat.le_of_eq hg.symm)) hb);replace HO_11:=aM (Kd.R_below (zr HO_11.out) hb);replace HO_12:=aM (Kd.R_below (Kd.R_elderB (zr HO_12.out) gb592 (Nat.le_of_eq hg.symm)) hb);have BK592:=aM (hbox);have GW592:=aM ((zg hg (zb HB.out)));have GE592:=aM ((zg hg (zb HB.out)));replace HB:=aM (below_step (zb HB.out) hb);clear hb hbox hg;refine hK.out _ _ ⟨HS0_,HS1_,HS2_⟩ (fun hHeld=>?_);clear hK K;refine norm_ (a':=?_) ?_ ?_;rotate_left
          ·show Act.put _ (some 14) _=_;simp only [Act.put,aQ,zQ,sQ,i64_w,i32_w];rfl
          exact norm_ (Z41) (hCont (gb592) _ ⟨hHeld,(zr HO_11.out),(zr HO_12.out),(zr HO_9.out),(zk BK592.out),GW592.out,GE592.out,(zs HB.out)⟩)
         ·skip
          refine box_step ?hg (N:=14) ?hd (cs:=#[.int .i64 0,.int .i64 0]) (t:=26) ?hr ?_;(case hd=>rfl);(case hg=>rfl);(case hr=>exact (Z9));intro gb592 hg w31 hbox hb;have HS0_:=(hb.cell (World.block_lt_of_cell? _ _ (hHeld.1))).trans (hHeld.1);have HS1_:=(hb.cell (World.block_lt_of_cell? _ _ (hHeld.2.1))).trans (hHeld.2.1);have HS2_:=(hb.cell (World.block_lt_of_cell? _ _ (hHeld.2.2))).trans (hHeld.2.2);replace HO_9:=aM (Kd.R_below (Kd.R_elderB (zr HO_9.out) gb592 (Nat.le_of_eq hg.symm)) hb);replace HO_11:=aM (Kd.R_below (zr HO_11.out) hb);replace HO_12:=aM (Kd.R_below (Kd.R_elderB (zr HO_12.out) gb592 (Nat.le_of_eq hg.symm)) hb);have BK592:=aM (hbox);have GW592:=aM ((zg hg (zb HB.out)));have GE592:=aM ((zg hg (zb HB.out)));replace HB:=aM (below_step (zb HB.out) hb);clear hb hbox hg;refine hK.out _ _ ⟨HS0_,HS1_,HS2_⟩ (fun hHeld=>?_);clear hK K;refine norm_ (a':=?_) ?_ ?_;rotate_left
          ·show Act.put _ (some 14) _=_;simp only [Act.put,aQ,zQ,sQ,i64_w,i32_w];rfl
          refine one_ (i:=9) (N:=some 49) #[tt,tt,tt,tt,tt,tt,tt,tt,tt,tt,ff,ff,ff,tt,ff,ff] rfl rfl (one_of HT_.out (Z17)) (Z19) (fun K hK=>?_);refine gs Try.func76 #[.agg #[.int .i64 ((rd_T26 t580 x36_2).f0),.int .i64 ((rd_T26 t580 x36_2).f1)],.agg #[.int .i64 (rd t584 x36_2),.int .i64 1]] ?_;(with_reducible refine (impl_AddRatios.calls k2 ((rd_T26 t580 x36_2).f0) ((rd_T26 t580 x36_2).f1) (rd t584 x36_2) 1 t589 t590 false _ A17.out).mono ?_);rintro e w32 ⟨rfl,hb⟩;have HS0_:=(hb.cell (World.block_lt_of_cell? _ _ (hHeld.1))).trans (hHeld.1);have HS1_:=(hb.cell (World.block_lt_of_cell? _ _ (hHeld.2.1))).trans (hHeld.2.1);have HS2_:=(hb.cell (World.block_lt_of_cell? _ _ (hHeld.2.2))).trans (hHeld.2.2);refine ⟨_,rfl,?_⟩;replace HO_9:=aM (Kd.R_below (zr HO_9.out) hb);replace HO_11:=aM (Kd.R_below (zr HO_11.out) hb);replace HO_12:=aM (Kd.R_below (zr HO_12.out) hb);replace BK592:=aM (blk_below (g:=gb592) (o:=.cells #[.int .i64 0,.int .i64 0] 26 (0,0)) (zk BK592.out) hb);replace HB:=aM (below_step (zs HB.out) hb);(try clear hb);(try clear hk);refine hK.out _ _ ⟨HS0_,HS1_,HS2_⟩ (fun hHeld=>?_);clear hK K;refine norm_ (a':=?_) ?_ ?_;rotate_left
          ·show Act.put _ (some 49) _=_;simp only [Act.put,aQ,zQ,sQ,i64_w,i32_w];rfl
          refine pu 10 (some 39) #[tt,tt,tt,tt,tt,tt,tt,tt,tt,tt,tt,ff,ff,tt,ff,ff] rfl rfl HT_ ?_;refine pu 11 (some 50) #[tt,tt,tt,tt,tt,tt,tt,tt,tt,tt,tt,tt,ff,tt,ff,ff] rfl rfl HT_ ?_;refine pu 12 (some 51) #[tt,tt,tt,tt,tt,tt,tt,tt,tt,tt,tt,tt,tt,tt,ff,ff] rfl rfl HT_ ?_;exact norm_ (Z41) (hCont (gb592) _ ⟨hHeld,(zr HO_11.out),(zr HO_12.out),(zr HO_9.out),(zk BK592.out),GW592.out,GE592.out,(zs HB.out)⟩)
        rintro gb592 w33 ⟨hS_,h0_,h1_,h2_,h3_,h4_,h5_,h6_⟩;replace HO_11:Aside0 (Kd.R (Kd.int .i64) 3 w33 w.heap.size (fun _=>True) (.slice (some ad588) t584.length co30) t584):=⟨h0_⟩;replace HO_12:Aside0 (Kd.R k26 26 w33 w.heap.size (fun k_=>some k_≠(.slice (some ad587) t580.length co12:Value).ownBlock∧k_≠gb592) u12 x12_2):=⟨h1_⟩;replace HO_9:Aside0 (Kd.R k26 26 w33 w.heap.size (fun k_=>some k_≠(u12:Value).ownBlock∧k_≠gb592) (.slice (some ad587) t580.length co12) t580):=⟨h2_⟩;have BK592:Aside0 (w33.heap[gb592]?=some (.cells #[.int .i64 0,.int .i64 0] 26 (0,0))):=⟨h3_⟩;have GW592:Aside0 (w.heap.size≤gb592):=⟨h4_⟩;have GE592:Aside0 (w.heap.size≤gb592):=⟨h5_⟩;replace HB:Aside0 (Below w.heap.size w w33):=⟨h6_⟩;clear h0_ h1_ h2_ h3_ h4_ h5_ h6_;have hHeld:w33.cell? (ad587.add ((x36_2).toNat*2))=some (.int .i64 ((rd_T26 t580 x36_2).f0))∧w33.cell? ⟨(ad587.add ((x36_2).toNat*2)).block,(ad587.add ((x36_2).toNat*2)).off+1,none⟩=some (.int .i64 ((rd_T26 t580 x36_2).f1))∧w33.cell? (ad588.add (x36_2).toNat)=some (.int .i64 (rd t584 x36_2)):=hS_;refine norm_ (a':=?_) ?_ ?_;rotate_left
        ·simp only [putAll,Act.put,aQ,zQ,sQ];rfl
        refine one_ (i:=14) (N:=none) #[tt,tt,tt,tt,tt,tt,tt,tt,tt,tt,tt,tt,tt,tt,tt,ff] rfl rfl (one_of HT_.out (Z17)) (Z19) (fun K hK=>?_);have hs34:w33.cell? ⟨gb592,0,none⟩=some (.int .i64 0):=(blk_cell BK592.out 0).trans rfl;have hfs34:=blk_frozen BK592.out 0;have hs35:w33.cell? ⟨gb592,1,none⟩=some (.int .i64 0):=(blk_cell BK592.out 1).trans rfl;have hfs35:=blk_frozen BK592.out 1;refine skip_ (w1:=?_) (Z83) rfl ?_ ?_;rotate_left
        ·go_simp;rfl
        refine hK.out _ _ ⟨((cell_far (p:=⟨gb592,_,none⟩) (Z16 HO_9.out) _).trans (((cell_far (p:=⟨gb592,_,none⟩) (Z16 HO_9.out) _).trans (hHeld.1)))),((cell_far (p:=⟨gb592,_,none⟩) (Z16 HO_9.out) _).trans (((cell_far (p:=⟨gb592,_,none⟩) (Z16 HO_9.out) _).trans (hHeld.2.1)))),((cell_far (p:=⟨gb592,_,none⟩) (Z44 HO_11.out BK592.out) _).trans (((cell_far (p:=⟨gb592,_,none⟩) (Z44 HO_11.out BK592.out) _).trans (hHeld.2.2))))⟩ (fun hHeld=>?_);clear hK K;refine pu 15 (some 15) #[tt,tt,tt,tt,tt,tt,tt,tt,tt,tt,tt,tt,tt,tt,tt,tt] rfl rfl HT_ ?_;refine done_ (done_of HT_.out (Z17)) ?_;(try go_wp2);go_ret3;exact ⟨_,_,Z7,Z21,Z21,zs HB.out⟩
      ·rw [if_neg c13] at H;have c13b0:decide (x36_2<(t580.length:Int))=false:=decide_eq_false c13;clear c13;simp only [Option.some.injEq,Prod.mk.injEq] at H;obtain ⟨rfl,rfl,rfl⟩:=H;go_wp2;go_ret3;exact ⟨_,_,Z7,zr HO_9.out,zr HO_12.out,zb HB.out⟩
end Go.Proofs.Ytojkepidkmkmpaa.PFnSolved
end
section
namespace Go.Proofs.Ytojkepidkmkmpaa.PFnSolved
open Go.Proofs.YtojkepidkmkmpaaW.PrintWords.Aside0 renaming mk → aM
open List renaming setIfInBounds_toArray → aQ, set_cons_zero → zQ, set_cons_succ → sQ
open Bool renaming true → tt, false → ff
open Option renaming bind_eq_some_iff → bE

open Go.RowKit Go.Proofs.YtojkepidkmkmpaaW.PrintWords Go.Proofs.YtojkepidkmkmpaaW.PrintLast Go.Proofs.YtojkepidkmkmpaaW.PrintMore
attribute [local go_sem] max2_int min2_int max_two min_two max_three min_three max_four min_four
set_option linter.unusedVariables false
set_option linter.unusedSimpArgs false
mutual
def laws_rowSum.l0 : Nat → List Int → List (S26) → Int → Int → Int → Option (Int × Int × Bool)
 | 0, _, _, _, _, _ => none
 | k + 1, x0, x1, x7, x598000, x598001 => if x7 < (x0.length : Int) then (laws_rowSum.j1 k x0 x1 x7 (decide (x7 < (x1.length : Int))) x598000 x598001) else (laws_rowSum.j1 k x0 x1 x7 false x598000 x598001)
def laws_rowSum.j1 : Nat → List Int → List (S26) → Int → Bool → Int → Int → Option (Int × Int × Bool)
 | 0, _, _, _, _, _, _ => none
 | k + 1, x0, x1, x7, x22, x598000, x598001 => if x22 = true then (if 0 ≤ x7 then (if x7 < (x0.length : Int) then (if x7 < (x1.length : Int) then ((impl_TimesRatios.f k (rd x0 x7) 1 ((rd_T26 x1 x7).f0) ((rd_T26 x1 x7).f1)).bind fun bt600 => ((impl_AddRatios.f k x598000 x598001 bt600.1 bt600.2.1).bind fun bt604 => (if bt600.2.2 = true then (if bt604.2.2 = true then (laws_rowSum.l0 k x0 x1 (wrap64 (x7 + 1)) bt604.1 bt604.2.1) else (some (0, 0, false))) else (some (0, 0, false))))) else (none)) else (none)) else (none)) else (some (x598000, x598001, true))
end
def laws_rowSum.f (k:Nat) (l0:List Int) (l1:List (S26)):Option (Int × Int × Bool):=laws_rowSum.l0 k l0 l1 0 0 1
def laws_rowSum.T5:Bool × List (List Nat × List Nat):=(true,[([],[]),([],[]),([0,1],[0,1]),([2],[2]),([3],[3]),([],[]),([],[]),([5,6],[5,6]),([7],[7]),([4,8],[4,8]),([9],[9]),([10],[10]),([10],[10]),([],[]),([13,11,9,0,1,2,3,4,5,6,7,8,9,10,11,13],[11,13]),([12,14,0,1,2,3,4,5,6,7,8,9,10,11,12,13,14],[12])])
def laws_rowSum.B5:List Nat:=[0,0,3,7,15,0,0,96,224,511,1023,2047,2047,0,12287,32767]
theorem laws_rowSum.tab5:rtab .any (opsOf Try.f31 5)=laws_rowSum.T5:=by kernel_rfl
theorem laws_rowSum.bits5:waitsOk laws_rowSum.T5.2 laws_rowSum.B5=true:=by kernel_rfl
set_option maxHeartbeats 8000000 in
set_option maxRecDepth 100000 in
theorem laws_rowSum.calls (k : Nat) (A0 : Option Addr) (c0 : Nat) (l0 : List Int) (A1 : Option Addr) (c1 : Nat) (l1 : List (S26)) (r1 : Int) (r2 : Int) (r3 : Bool) (w : World) (hr0 : Kd.C (Kd.int .i64) w A0 l0.length l0) (hc0 : l0.length ≤ c0) (hr1 : Kd.C k26 w A1 l1.length l1) (hc1 : l1.length ≤ c1) (h : laws_rowSum.f k l0 l1 = some (r1, r2, r3)) :
 Calls Try.prog 31 #[.slice A0 l0.length c0, .slice A1 l1.length c1] w fun e w' => e = .returned (.tuple #[.agg #[.int .i64 r1, .int .i64 r2], .bool r3]) ∧ Below w.heap.size w w' := by
 have hu26:=Try.underlying26;have HR0:=aM hr0;have HC0:=aM hc0;clear hr0 hc0;have HR1:=aM hr1;have HC1:=aM hc1;clear hr1 hc1;have HB:=aM (Below.refl w.heap.size w);have H:(laws_rowSum.l0 k l0 l1 0 0 1)=some (r1,r2,r3):=h;clear h;have H':=aM H;clear H;go_enter Try.func31,Try.ntmps31;go_wp2_with (first|((with_reducible refine gate_dst (N:=4) rfl ?_);(try (refine gate_guard (Z83) ?_;dsimp only));refine box_event ?hg (N:=4) ?hd (cs:=#[.int .i64 0,.int .i64 0]) (t:=26) ?hr ?_;(case hd=>rfl);(case hg=>rfl);(case hr=>exact (Z9));intro gb596 hg w3 hbox hb;have BK596:=aM (hbox);have GW596:=aM ((zg hg (zb HB.out)));have GE596:=aM ((zg hg (zb HB.out)));replace HB:=aM (below_step (zb HB.out) hb);clear hb hbox hg)|((with_reducible refine gate_dst (N:=6) rfl ?_);(try (refine gate_guard (Z83) ?_;dsimp only));refine box_event ?hg (N:=6) ?hd (cs:=#[.int .i64 0,.int .i64 0]) (t:=26) ?hr ?_;(case hd=>rfl);(case hg=>rfl);(case hr=>exact (Z9));intro gb597 hg w4 hbox hb;have BK597:=aM (hbox);have GW597:=aM ((zg hg (zs HB.out)));have GE597:=aM ((zg hg (zs HB.out)));replace HB:=aM (below_step (zs HB.out) hb);have NB596_597:=aM ((zl hg (zk BK596.out)));have NB597_596:=aM ((zm hg (zk BK596.out)));replace BK596:=aM (blk_below (g:=gb596) (o:=.cells #[.int .i64 0,.int .i64 0] 26 (0,0)) (zk BK596.out) hb);clear hb hbox hg;have hnb5:=NB597_596.out;have hnc5:=NB596_597.out;have hcz6_0:w4.cell? ⟨gb597,0,none⟩=some (.int .i64 0):=(blk_cell BK597.out 0).trans rfl;have hcz6_1:w4.cell? ⟨gb597,1,none⟩=some (.int .i64 0):=(blk_cell BK597.out 1).trans rfl;have hfz6_0:=blk_frozen BK597.out 0;have hfz6_1:=blk_frozen BK597.out 1));go_loopg [7] k (fun kq v7 w'=>∃(x7_1:Int) (x597000_1:Int) (x597001_1:Int) (x598000_1:Int) (x598001_1:Int),v7 = .int .i64 x7_1∧Aside0 (laws_rowSum.l0 kq l0 l1 x7_1 x598000_1 x598001_1=some (r1,r2,r3))∧Aside0 (kq≤k)∧Aside0 (w'.heap[gb596]?=some (.cells #[.int .i64 x597000_1,.int .i64 x597001_1] 26 (0,0)))∧Aside0 (w'.heap[gb597]?=some (.cells #[.int .i64 x598000_1,.int .i64 x598001_1] 26 (0,0)))∧Aside0 (Below w.heap.size w w'));(case atStart=>exact ⟨(0),(0),(0),(0),(1),zt,H',⟨Nat.le_refl _⟩,⟨Z6 NB596_597.out BK596.out⟩,⟨Z10 BK597.out⟩,⟨zs HB.out⟩⟩)
 case round=>
  clear H';(try clear c1);(try clear hcz6_0);(try clear hcz6_1);(try clear hfz6_0);(try clear hfz6_1);obtain ⟨x7_1,x597000_1,x597001_1,x598000_1,x598001_1,rfl,HA,HK1,BK596,BK597,HB⟩:=hrel;cases gk with
  | zero=>exact absurd HA.out (by simp [laws_rowSum.l0])
  | succ k1=>
   have H:=HA.out;clear HA;simp only [laws_rowSum.l0] at H;have HC7:=aM H;clear H;go_upto_region 3 with (fail)
   go_cut [22] (fun v22 wc=>∃(kq:Nat) (x22_6:Bool),v22 = .bool x22_6∧Aside0 (laws_rowSum.j1 kq l0 l1 x7_1 x22_6 x598000_1 x598001_1=some (r1,r2,r3))∧Aside0 (kq≤k1)∧Aside0 (wc.heap[gb596]?=some (.cells #[.int .i64 x597000_1,.int .i64 x597001_1] 26 (0,0)))∧Aside0 (wc.heap[gb597]?=some (.cells #[.int .i64 x598000_1,.int .i64 x598001_1] 26 (0,0)))∧Aside0 (Below w.heap.size w wc))
   case first=>
    have H:=HC7.out;clear HC7;by_cases c8:x7_1<(l0.length:Int)
    ·rw [if_pos c8] at H;have c8b0:decide (x7_1<(l0.length:Int))=true:=decide_eq_true c8;clear c8;(first|rw [c8b0]|(simp only [i64_w,i32_w];rw [c8b0])|skip);have H':=aM H;clear H;go_wp2;go_meet;(case rel=>exact ⟨_,(decide (x7_1<(l1.length:Int))),zt,H',⟨Z59 HK1.out⟩,⟨zk BK596.out⟩,⟨zk BK597.out⟩,⟨zs HB.out⟩⟩)
    ·rw [if_neg c8] at H;have c8b0:decide (x7_1<(l0.length:Int))=false:=decide_eq_false c8;clear c8;(first|rw [c8b0]|(simp only [i64_w,i32_w];rw [c8b0])|skip);have H':=aM H;clear H;go_wp2;go_meet;(case rel=>exact ⟨_,(false),zt,H',⟨Z59 HK1.out⟩,⟨zk BK596.out⟩,⟨zk BK597.out⟩,⟨zs HB.out⟩⟩)
   case rest=>
    clear HC7;(try clear c1);(try clear c8);(try clear c8b0);(try clear hcz6_0);(try clear hcz6_1);(try clear hfz6_0);(try clear hfz6_1);obtain ⟨kq,x22_6,rfl,HA,HJ6,BK596,BK597,HB⟩:=hcut;cases kq with
    | zero=>exact absurd HA.out (by simp [laws_rowSum.j1])
    | succ kj6=>
     have H:=HA.out;clear HA;simp only [laws_rowSum.j1] at H;by_cases c9:x22_6=true
     ·subst c9;replace H:=ifT H;obtain ⟨c10b0,H⟩:=iN H;obtain ⟨c11b0,H⟩:=iN H;obtain ⟨c12b0,H⟩:=iN H;obtain ⟨⟨t600,t601,t602⟩,A13,H⟩:=bz H;dsimp only at H;obtain ⟨⟨t604,t605,t606⟩,A14,H⟩:=bz H;dsimp only at H;by_cases c15:t602=true
      ·subst c15;replace H:=ifT H;by_cases c16:t606=true
       ·subst c16;replace H:=ifT H;have H':=aM H;clear H;(try go_wp2);replace BK596:=aM (blk_drew BK596.out);replace BK597:=aM (blk_drew BK597.out);replace HB:=aM (below_drew1 HB.out);have p598:0≤(x7_1:Int):=zd;have q598:x7_1<(l0.length:Int):=zd;obtain ⟨ad598,e598,hx598_0⟩:=Kd.at_int HR0.out x7_1 p598 q598;have hw598_0:=hx598_0;cases e598;replace hx598_0:=zx HB.out hx598_0;replace p598:=eq_true p598;replace q598:=eq_true q598;have p599:0≤(x7_1:Int):=zd;have q599:x7_1<(l1.length:Int):=zd;obtain ⟨ad599,e599,hx599_0,hx599_1⟩:=at_T26 HR1.out x7_1 p599 q599;have hw599_1:=hx599_1;have hw599_0:=hx599_0;cases e599;replace hx599_0:=zx HB.out hx599_0;replace hx599_1:=zx HB.out hx599_1;replace p599:=eq_true p599;replace q599:=eq_true q599;refine start_ (n:=16) (S:=fun w'=>w'.cell? (ad598.add (x7_1).toNat)=some (.int .i64 (rd l0 x7_1))∧w'.cell? (ad599.add ((x7_1).toNat*2))=some (.int .i64 ((rd_T26 l1 x7_1).f0))∧w'.cell? ⟨(ad599.add ((x7_1).toNat*2)).block,(ad599.add ((x7_1).toNat*2)).off+1,none⟩=some (.int .i64 ((rd_T26 l1 x7_1).f1))) (ds:=[]) #[ff,ff,ff,ff,ff,ff,ff,ff,ff,ff,ff,ff,ff,ff,ff,ff] (Z17) rfl rfl ⟨(zx HB.out hw598_0),(zx HB.out hw599_0),(zx HB.out hw599_1)⟩ (fun hHeld=>?_);refine with_tabW laws_rowSum.tab5 laws_rowSum.bits5 (fun HT_ HW_=>?_);generalize wc.drew=w17 at BK596 BK597 HB hx598_0 hx599_0 hx599_1 hHeld ⊢;refine pu 0 (some 26) #[tt,ff,ff,ff,ff,ff,ff,ff,ff,ff,ff,ff,ff,ff,ff,ff] rfl rfl HT_ ?_;refine pu 1 (some 27) #[tt,tt,ff,ff,ff,ff,ff,ff,ff,ff,ff,ff,ff,ff,ff,ff] rfl rfl HT_ ?_;refine pu 2 (some 28) #[tt,tt,tt,ff,ff,ff,ff,ff,ff,ff,ff,ff,ff,ff,ff,ff] rfl rfl HT_ ?_;refine pu 5 (some 31) #[tt,tt,tt,ff,ff,tt,ff,ff,ff,ff,ff,ff,ff,ff,ff,ff] rfl rfl HT_ ?_;refine pu 6 (some 32) #[tt,tt,tt,ff,ff,tt,tt,ff,ff,ff,ff,ff,ff,ff,ff,ff] rfl rfl HT_ ?_;refine pu 7 (some 33) #[tt,tt,tt,ff,ff,tt,tt,tt,ff,ff,ff,ff,ff,ff,ff,ff] rfl rfl HT_ ?_;refine take_ (i:=3) (N:=some 29) (v:=?_) (a':=?_) #[tt,tt,tt,tt,ff,tt,tt,tt,ff,ff,ff,ff,ff,ff,ff,ff] rfl rfl (take_ofW HT_.out HW_.out (Z17)) (fun _ _ _ h=>h) (Or.inl ⟨Z83,?_⟩) hHeld ?_ ?_;rotate_left
        ·rintro w' ⟨s0,s1,s2⟩;go_simp;(with_reducible rfl)
        rotate_left
        ·simp only [Act.put,aQ,zQ,sQ,i64_w,i32_w];rfl
        refine pu 4 (some 30) #[tt,tt,tt,tt,tt,tt,tt,tt,ff,ff,ff,ff,ff,ff,ff,ff] rfl rfl HT_ ?_;refine take_ (i:=8) (N:=some 34) (v:=?_) (a':=?_) #[tt,tt,tt,tt,tt,tt,tt,tt,tt,ff,ff,ff,ff,ff,ff,ff] rfl rfl (take_ofW HT_.out HW_.out (Z17)) (fun _ _ _ h=>h) (Or.inl ⟨Z83,?_⟩) hHeld ?_ ?_;rotate_left
        ·rintro w' ⟨s0,s1,s2⟩;go_simp;(with_reducible rfl)
        rotate_left
        ·simp only [Act.put,aQ,zQ,sQ,i64_w,i32_w];rfl
        refine join_ (σ:=Nat) 2 #[tt,tt,tt,tt,tt,tt,tt,tt,tt,tt,tt,tt,tt,tt,ff,ff] (fun s_=>[(35,.tuple #[.agg #[.int .i64 t600,.int .i64 t601],.bool true]),(8,.pointer (some ⟨s_,0,none⟩)),(25,.tuple #[.agg #[.int .i64 t600,.int .i64 t601],.bool true]),(36,.agg #[.int .i64 t600,.int .i64 t601]),(37,.bool true)]) (fun s_ w'=>(w'.cell? (ad598.add (x7_1).toNat)=some (.int .i64 (rd l0 x7_1))∧w'.cell? (ad599.add ((x7_1).toNat*2))=some (.int .i64 ((rd_T26 l1 x7_1).f0))∧w'.cell? ⟨(ad599.add ((x7_1).toNat*2)).block,(ad599.add ((x7_1).toNat*2)).off+1,none⟩=some (.int .i64 ((rd_T26 l1 x7_1).f1)))∧(w'.heap[gb596]?=some (.cells #[.int .i64 x597000_1,.int .i64 x597001_1] 26 (0,0)))∧(w'.heap[gb597]?=some (.cells #[.int .i64 x598000_1,.int .i64 x598001_1] 26 (0,0)))∧(w'.heap[s_]?=some (.cells #[.int .i64 0,.int .i64 0] 26 (0,0)))∧(w.heap.size≤s_)∧(w.heap.size≤s_)∧(gb596≠s_)∧(s_≠gb596)∧(gb597≠s_)∧(s_≠gb597)∧(Below w.heap.size w w')) ?_ ?_;rotate_left
        ·intro hCont;refine two_ (i:=9) (j:=13) (Ni:=some 35) (Nj:=some 8) #[tt,tt,tt,tt,tt,tt,tt,tt,tt,tt,ff,ff,ff,ff,ff,ff] #[tt,tt,tt,tt,tt,tt,tt,tt,tt,ff,ff,ff,ff,tt,ff,ff] rfl rfl rfl rfl (two_of HT_.out (Z17)) (Z19) (Z19) (fun K hK=>?_) (fun K hK=>?_)
         ·skip
          refine gs Try.func75 #[.agg #[.int .i64 (rd l0 x7_1),.int .i64 1],.agg #[.int .i64 ((rd_T26 l1 x7_1).f0),.int .i64 ((rd_T26 l1 x7_1).f1)]] ?_;(with_reducible refine (impl_TimesRatios.calls kj6 (rd l0 x7_1) 1 ((rd_T26 l1 x7_1).f0) ((rd_T26 l1 x7_1).f1) t600 t601 true _ A13.out).mono ?_);rintro e w18 ⟨rfl,hb⟩;refine ⟨_,rfl,?_⟩;replace BK596:=aM (blk_below (g:=gb596) (o:=.cells #[.int .i64 x597000_1,.int .i64 x597001_1] 26 (0,0)) (zk BK596.out) hb);replace BK597:=aM (blk_below (g:=gb597) (o:=.cells #[.int .i64 x598000_1,.int .i64 x598001_1] 26 (0,0)) (zk BK597.out) hb);replace HB:=aM (below_step (zs HB.out) hb);(try clear hb);refine hK.out _ _ ⟨(zx HB.out hw598_0),(zx HB.out hw599_0),(zx HB.out hw599_1)⟩ (fun hHeld=>?_);clear hK K;refine norm_ (a':=?_) ?_ ?_;rotate_left
          ·show Act.put _ (some 35) _=_;simp only [Act.put,aQ,zQ,sQ,i64_w,i32_w];rfl
          refine pu 10 (some 25) #[tt,tt,tt,tt,tt,tt,tt,tt,tt,tt,tt,ff,ff,ff,ff,ff] rfl rfl HT_ ?_;refine pu 11 (some 36) #[tt,tt,tt,tt,tt,tt,tt,tt,tt,tt,tt,tt,ff,ff,ff,ff] rfl rfl HT_ ?_;refine pu 12 (some 37) #[tt,tt,tt,tt,tt,tt,tt,tt,tt,tt,tt,tt,tt,ff,ff,ff] rfl rfl HT_ ?_;refine one_ (i:=13) (N:=some 8) #[tt,tt,tt,tt,tt,tt,tt,tt,tt,tt,tt,tt,tt,tt,ff,ff] rfl rfl (one_of HT_.out (Z17)) (Z19) (fun K hK=>?_);refine box_step ?hg (N:=8) ?hd (cs:=#[.int .i64 0,.int .i64 0]) (t:=26) ?hr ?_;(case hd=>rfl);(case hg=>rfl);(case hr=>exact (Z9));intro gb603 hg w19 hbox hb;have BK603:=aM (hbox);have GW603:=aM ((zg hg (zs HB.out)));have GE603:=aM ((zg hg (zs HB.out)));replace HB:=aM (below_step (zs HB.out) hb);have NB596_603:=aM ((zl hg (zk BK596.out)));have NB603_596:=aM ((zm hg (zk BK596.out)));replace BK596:=aM (blk_below (g:=gb596) (o:=.cells #[.int .i64 x597000_1,.int .i64 x597001_1] 26 (0,0)) (zk BK596.out) hb);have NB597_603:=aM ((zl hg (zk BK597.out)));have NB603_597:=aM ((zm hg (zk BK597.out)));replace BK597:=aM (blk_below (g:=gb597) (o:=.cells #[.int .i64 x598000_1,.int .i64 x598001_1] 26 (0,0)) (zk BK597.out) hb);clear hb hbox hg;refine hK.out _ _ ⟨(zx HB.out hw598_0),(zx HB.out hw599_0),(zx HB.out hw599_1)⟩ (fun hHeld=>?_);clear hK K;refine norm_ (a':=?_) ?_ ?_;rotate_left
          ·show Act.put _ (some 8) _=_;simp only [Act.put,aQ,zQ,sQ,i64_w,i32_w];rfl
          exact norm_ (Z41) (hCont (gb603) _ ⟨hHeld,(zk BK596.out),(zk BK597.out),(zk BK603.out),GW603.out,GE603.out,NB596_603.out,NB603_596.out,NB597_603.out,NB603_597.out,(zs HB.out)⟩)
         ·skip
          refine box_step ?hg (N:=8) ?hd (cs:=#[.int .i64 0,.int .i64 0]) (t:=26) ?hr ?_;(case hd=>rfl);(case hg=>rfl);(case hr=>exact (Z9));intro gb603 hg w18 hbox hb;have BK603:=aM (hbox);have GW603:=aM ((zg hg (zs HB.out)));have GE603:=aM ((zg hg (zs HB.out)));replace HB:=aM (below_step (zs HB.out) hb);have NB596_603:=aM ((zl hg (zk BK596.out)));have NB603_596:=aM ((zm hg (zk BK596.out)));replace BK596:=aM (blk_below (g:=gb596) (o:=.cells #[.int .i64 x597000_1,.int .i64 x597001_1] 26 (0,0)) (zk BK596.out) hb);have NB597_603:=aM ((zl hg (zk BK597.out)));have NB603_597:=aM ((zm hg (zk BK597.out)));replace BK597:=aM (blk_below (g:=gb597) (o:=.cells #[.int .i64 x598000_1,.int .i64 x598001_1] 26 (0,0)) (zk BK597.out) hb);clear hb hbox hg;refine hK.out _ _ ⟨(zx HB.out hw598_0),(zx HB.out hw599_0),(zx HB.out hw599_1)⟩ (fun hHeld=>?_);clear hK K;refine norm_ (a':=?_) ?_ ?_;rotate_left
          ·show Act.put _ (some 8) _=_;simp only [Act.put,aQ,zQ,sQ,i64_w,i32_w];rfl
          refine one_ (i:=9) (N:=some 35) #[tt,tt,tt,tt,tt,tt,tt,tt,tt,tt,ff,ff,ff,tt,ff,ff] rfl rfl (one_of HT_.out (Z17)) (Z19) (fun K hK=>?_);refine gs Try.func75 #[.agg #[.int .i64 (rd l0 x7_1),.int .i64 1],.agg #[.int .i64 ((rd_T26 l1 x7_1).f0),.int .i64 ((rd_T26 l1 x7_1).f1)]] ?_;(with_reducible refine (impl_TimesRatios.calls kj6 (rd l0 x7_1) 1 ((rd_T26 l1 x7_1).f0) ((rd_T26 l1 x7_1).f1) t600 t601 true _ A13.out).mono ?_);rintro e w19 ⟨rfl,hb⟩;refine ⟨_,rfl,?_⟩;replace BK596:=aM (blk_below (g:=gb596) (o:=.cells #[.int .i64 x597000_1,.int .i64 x597001_1] 26 (0,0)) (zk BK596.out) hb);replace BK597:=aM (blk_below (g:=gb597) (o:=.cells #[.int .i64 x598000_1,.int .i64 x598001_1] 26 (0,0)) (zk BK597.out) hb);replace BK603:=aM (blk_below (g:=gb603) (o:=.cells #[.int .i64 0,.int .i64 0] 26 (0,0)) (zk BK603.out) hb);replace HB:=aM (below_step (zs HB.out) hb);(try clear hb);refine hK.out _ _ ⟨(zx HB.out hw598_0),(zx HB.out hw599_0),(zx HB.out hw599_1)⟩ (fun hHeld=>?_);clear hK K;refine norm_ (a':=?_) ?_ ?_;rotate_left
          ·show Act.put _ (some 35) _=_;simp only [Act.put,aQ,zQ,sQ,i64_w,i32_w];rfl
          refine pu 10 (some 25) #[tt,tt,tt,tt,tt,tt,tt,tt,tt,tt,tt,ff,ff,tt,ff,ff] rfl rfl HT_ ?_;refine pu 11 (some 36) #[tt,tt,tt,tt,tt,tt,tt,tt,tt,tt,tt,tt,ff,tt,ff,ff] rfl rfl HT_ ?_;refine pu 12 (some 37) #[tt,tt,tt,tt,tt,tt,tt,tt,tt,tt,tt,tt,tt,tt,ff,ff] rfl rfl HT_ ?_;exact norm_ (Z41) (hCont (gb603) _ ⟨hHeld,(zk BK596.out),(zk BK597.out),(zk BK603.out),GW603.out,GE603.out,NB596_603.out,NB603_596.out,NB597_603.out,NB603_597.out,(zs HB.out)⟩)
        rintro gb603 w20 ⟨hS_,h0_,h1_,h2_,h3_,h4_,h5_,h6_,h7_,h8_,h9_⟩;replace BK596:Aside0 (w20.heap[gb596]?=some (.cells #[.int .i64 x597000_1,.int .i64 x597001_1] 26 (0,0))):=⟨h0_⟩;replace BK597:Aside0 (w20.heap[gb597]?=some (.cells #[.int .i64 x598000_1,.int .i64 x598001_1] 26 (0,0))):=⟨h1_⟩;have BK603:Aside0 (w20.heap[gb603]?=some (.cells #[.int .i64 0,.int .i64 0] 26 (0,0))):=⟨h2_⟩;have GW603:Aside0 (w.heap.size≤gb603):=⟨h3_⟩;have GE603:Aside0 (w.heap.size≤gb603):=⟨h4_⟩;have NB596_603:Aside0 (gb596≠gb603):=⟨h5_⟩;have NB603_596:Aside0 (gb603≠gb596):=⟨h6_⟩;have NB597_603:Aside0 (gb597≠gb603):=⟨h7_⟩;have NB603_597:Aside0 (gb603≠gb597):=⟨h8_⟩;replace HB:Aside0 (Below w.heap.size w w20):=⟨h9_⟩;clear h0_ h1_ h2_ h3_ h4_ h5_ h6_ h7_ h8_ h9_;have hHeld:w20.cell? (ad598.add (x7_1).toNat)=some (.int .i64 (rd l0 x7_1))∧w20.cell? (ad599.add ((x7_1).toNat*2))=some (.int .i64 ((rd_T26 l1 x7_1).f0))∧w20.cell? ⟨(ad599.add ((x7_1).toNat*2)).block,(ad599.add ((x7_1).toNat*2)).off+1,none⟩=some (.int .i64 ((rd_T26 l1 x7_1).f1)):=hS_;refine norm_ (a':=?_) ?_ ?_;rotate_left
        ·simp only [putAll,Act.put,aQ,zQ,sQ];rfl
        refine one_ (i:=14) (N:=none) #[tt,tt,tt,tt,tt,tt,tt,tt,tt,tt,tt,tt,tt,tt,tt,ff] rfl rfl (one_of HT_.out (Z17)) (Z19) (fun K hK=>?_);have hs21:w20.cell? ⟨gb603,0,none⟩=some (.int .i64 0):=(blk_cell BK603.out 0).trans rfl;have hfs21:=blk_frozen BK603.out 0;have hns21_0:=NB596_603.out;have hns21_1:=NB597_603.out;have hms21_0:=NB603_596.out;have hms21_1:=NB603_597.out;have hs22:w20.cell? ⟨gb603,1,none⟩=some (.int .i64 0):=(blk_cell BK603.out 1).trans rfl;have hfs22:=blk_frozen BK603.out 1;have hns22_0:=NB596_603.out;have hns22_1:=NB597_603.out;have hms22_0:=NB603_596.out;have hms22_1:=NB603_597.out;refine skip_ (w1:=?_) (Z83) rfl ?_ ?_;rotate_left
        ·go_simp;rfl
        refine hK.out _ _ ⟨((cell_far (p:=⟨gb603,_,none⟩) (Z5 hw598_0 GW603.out) _).trans (((cell_far (p:=⟨gb603,_,none⟩) (Z5 hw598_0 GW603.out) _).trans (hHeld.1)))),((cell_far (p:=⟨gb603,_,none⟩) (Z5 hw599_0 GW603.out) _).trans (((cell_far (p:=⟨gb603,_,none⟩) (Z5 hw599_0 GW603.out) _).trans (hHeld.2.1)))),((cell_far (p:=⟨gb603,_,none⟩) (Z5 hw599_1 GW603.out) _).trans (((cell_far (p:=⟨gb603,_,none⟩) (Z5 hw599_1 GW603.out) _).trans (hHeld.2.2))))⟩ (fun hHeld=>?_);clear hK K;refine pu 15 (some 9) #[tt,tt,tt,tt,tt,tt,tt,tt,tt,tt,tt,tt,tt,tt,tt,tt] rfl rfl HT_ ?_;refine done_ (done_of HT_.out (Z17)) ?_;have hnb23:=NB597_596.out;have hnc23:=NB596_597.out;have hnb24:=NB597_603.out;have hnc24:=NB603_597.out;have hcz25_0:w20.cell? ⟨gb597,0,none⟩=some (.int .i64 x598000_1):=(blk_cell BK597.out 0).trans rfl;have hcz25_1:w20.cell? ⟨gb597,1,none⟩=some (.int .i64 x598001_1):=(blk_cell BK597.out 1).trans rfl;have hfz25_0:=blk_frozen BK597.out 0;have hfz25_1:=blk_frozen BK597.out 1;have hnb26:=NB603_596.out;have hnc26:=NB596_603.out;have hcz27_0:w20.cell? ⟨gb603,0,none⟩=some (.int .i64 0):=(blk_cell BK603.out 0).trans rfl;have hcz27_1:w20.cell? ⟨gb603,1,none⟩=some (.int .i64 0):=(blk_cell BK603.out 1).trans rfl;have hfz27_0:=blk_frozen BK603.out 0;have hfz27_1:=blk_frozen BK603.out 1;(try go_wp2_with (first|((with_reducible refine gate_callee (f:=76) rfl ?_);refine gm (some 41) Try.func76 #[.agg #[.int .i64 x598000_1,.int .i64 x598001_1],.agg #[.int .i64 t600,.int .i64 t601]] ?_;(with_reducible refine (impl_AddRatios.calls kj6 x598000_1 x598001_1 t600 t601 t604 t605 true _ A14.out).mono ?_);rintro e w28 ⟨rfl,hb⟩;refine ⟨_,rfl,?_⟩;replace BK596:=aM (blk_below (g:=gb596) (o:=.cells #[.int .i64 x597000_1,.int .i64 x597001_1] 26 (0,0)) (Z6 NB596_603.out BK596.out) hb);replace BK597:=aM (blk_below (g:=gb597) (o:=.cells #[.int .i64 x598000_1,.int .i64 x598001_1] 26 (0,0)) (Z6 NB597_603.out BK597.out) hb);replace BK603:=aM (blk_below (g:=gb603) (o:=.cells #[.int .i64 t600,.int .i64 t601] 26 (0,0)) (Z33 BK603.out) hb);replace HB:=aM (below_step (zs HB.out) hb);(try clear hb);(try clear hi))|((with_reducible refine gate_dst (N:=10) rfl ?_);(try (refine gate_guard (Z83) ?_;dsimp only));refine box_event ?hg (N:=10) ?hd (cs:=#[.int .i64 0,.int .i64 0]) (t:=26) ?hr ?_;(case hd=>rfl);(case hg=>rfl);(case hr=>exact (Z9));intro gb607 hg w29 hbox hb;have BK607:=aM (hbox);have GW607:=aM ((zg hg (zs HB.out)));have GE607:=aM ((zg hg (zs HB.out)));replace HB:=aM (below_step (zs HB.out) hb);have NB596_607:=aM ((zl hg (zk BK596.out)));have NB607_596:=aM ((zm hg (zk BK596.out)));replace BK596:=aM (blk_below (g:=gb596) (o:=.cells #[.int .i64 x597000_1,.int .i64 x597001_1] 26 (0,0)) (zk BK596.out) hb);have NB597_607:=aM ((zl hg (zk BK597.out)));have NB607_597:=aM ((zm hg (zk BK597.out)));replace BK597:=aM (blk_below (g:=gb597) (o:=.cells #[.int .i64 x598000_1,.int .i64 x598001_1] 26 (0,0)) (zk BK597.out) hb);have NB603_607:=aM ((zl hg (zk BK603.out)));have NB607_603:=aM ((zm hg (zk BK603.out)));replace BK603:=aM (blk_below (g:=gb603) (o:=.cells #[.int .i64 t600,.int .i64 t601] 26 (0,0)) (zk BK603.out) hb);clear hb hbox hg;have hnb30:=NB607_596.out;have hnc30:=NB596_607.out;have hnb31:=NB607_597.out;have hnc31:=NB597_607.out;have hnb32:=NB607_603.out;have hnc32:=NB603_607.out;have hcz33_0:w29.cell? ⟨gb607,0,none⟩=some (.int .i64 0):=(blk_cell BK607.out 0).trans rfl;have hcz33_1:w29.cell? ⟨gb607,1,none⟩=some (.int .i64 0):=(blk_cell BK607.out 1).trans rfl;have hfz33_0:=blk_frozen BK607.out 0;have hfz33_1:=blk_frozen BK607.out 1;have hcz34_0:w29.cell? ⟨gb597,0,none⟩=some (.int .i64 x598000_1):=(blk_cell BK597.out 0).trans rfl;have hcz34_1:w29.cell? ⟨gb597,1,none⟩=some (.int .i64 x598001_1):=(blk_cell BK597.out 1).trans rfl;have hfz34_0:=blk_frozen BK597.out 0;have hfz34_1:=blk_frozen BK597.out 1)));go_roundg kj6;(case measure=>have:=HK1.out;have:=HJ6.out;omega);(case rel=>exact ⟨(wrap64 (x7_1+1)),(x597000_1),(x597001_1),(t604),(t605),zt,H',⟨Z87 HK1.out HJ6.out⟩,⟨by (with_reducible repeat (first|refine blk_drewN ?_ _|refine blk_drew ?_|refine blk_alloc ?_ _));refine blk_far ?_ NB596_597.out _;(with_reducible repeat (first|refine blk_drewN ?_ _|refine blk_drew ?_|refine blk_alloc ?_ _));refine blk_far ?_ NB596_597.out _;(with_reducible repeat (first|refine blk_drewN ?_ _|refine blk_drew ?_|refine blk_alloc ?_ _));refine blk_far ?_ NB596_607.out _;(with_reducible repeat (first|refine blk_drewN ?_ _|refine blk_drew ?_|refine blk_alloc ?_ _));refine blk_far ?_ NB596_607.out _;(with_reducible repeat (first|refine blk_drewN ?_ _|refine blk_drew ?_|refine blk_alloc ?_ _));exact BK596.out⟩,⟨by (with_reducible repeat (first|refine blk_drewN ?_ _|refine blk_drew ?_|refine blk_alloc ?_ _));refine blk_put (cs:=#[.int .i64 t604,.int .i64 x598001_1]) ?_ 1 _ rfl;(with_reducible repeat (first|refine blk_drewN ?_ _|refine blk_drew ?_|refine blk_alloc ?_ _));refine blk_put (cs:=#[.int .i64 x598000_1,.int .i64 x598001_1]) ?_ 0 _ rfl;(with_reducible repeat (first|refine blk_drewN ?_ _|refine blk_drew ?_|refine blk_alloc ?_ _));refine blk_far ?_ NB597_607.out _;(with_reducible repeat (first|refine blk_drewN ?_ _|refine blk_drew ?_|refine blk_alloc ?_ _));refine blk_far ?_ NB597_607.out _;(with_reducible repeat (first|refine blk_drewN ?_ _|refine blk_drew ?_|refine blk_alloc ?_ _));exact BK597.out⟩,⟨zs HB.out⟩⟩)
       ·replace c16:=Bool.eq_false_iff.mpr c16;subst c16;replace H:=ifF H;simp only [Option.some.injEq,Prod.mk.injEq] at H;obtain ⟨rfl,rfl,rfl⟩:=H;(try go_wp2);replace BK596:=aM (blk_drew BK596.out);replace BK597:=aM (blk_drew BK597.out);replace HB:=aM (below_drew1 HB.out);have p598:0≤(x7_1:Int):=zd;have q598:x7_1<(l0.length:Int):=zd;obtain ⟨ad598,e598,hx598_0⟩:=Kd.at_int HR0.out x7_1 p598 q598;have hw598_0:=hx598_0;cases e598;replace hx598_0:=zx HB.out hx598_0;replace p598:=eq_true p598;replace q598:=eq_true q598;have p599:0≤(x7_1:Int):=zd;have q599:x7_1<(l1.length:Int):=zd;obtain ⟨ad599,e599,hx599_0,hx599_1⟩:=at_T26 HR1.out x7_1 p599 q599;have hw599_1:=hx599_1;have hw599_0:=hx599_0;cases e599;replace hx599_0:=zx HB.out hx599_0;replace hx599_1:=zx HB.out hx599_1;replace p599:=eq_true p599;replace q599:=eq_true q599;refine start_ (n:=16) (S:=fun w'=>w'.cell? (ad598.add (x7_1).toNat)=some (.int .i64 (rd l0 x7_1))∧w'.cell? (ad599.add ((x7_1).toNat*2))=some (.int .i64 ((rd_T26 l1 x7_1).f0))∧w'.cell? ⟨(ad599.add ((x7_1).toNat*2)).block,(ad599.add ((x7_1).toNat*2)).off+1,none⟩=some (.int .i64 ((rd_T26 l1 x7_1).f1))) (ds:=[]) #[ff,ff,ff,ff,ff,ff,ff,ff,ff,ff,ff,ff,ff,ff,ff,ff] (Z17) rfl rfl ⟨(zx HB.out hw598_0),(zx HB.out hw599_0),(zx HB.out hw599_1)⟩ (fun hHeld=>?_);refine with_tabW laws_rowSum.tab5 laws_rowSum.bits5 (fun HT_ HW_=>?_);generalize wc.drew=w35 at BK596 BK597 HB hx598_0 hx599_0 hx599_1 hHeld ⊢;refine pu 0 (some 26) #[tt,ff,ff,ff,ff,ff,ff,ff,ff,ff,ff,ff,ff,ff,ff,ff] rfl rfl HT_ ?_;refine pu 1 (some 27) #[tt,tt,ff,ff,ff,ff,ff,ff,ff,ff,ff,ff,ff,ff,ff,ff] rfl rfl HT_ ?_;refine pu 2 (some 28) #[tt,tt,tt,ff,ff,ff,ff,ff,ff,ff,ff,ff,ff,ff,ff,ff] rfl rfl HT_ ?_;refine pu 5 (some 31) #[tt,tt,tt,ff,ff,tt,ff,ff,ff,ff,ff,ff,ff,ff,ff,ff] rfl rfl HT_ ?_;refine pu 6 (some 32) #[tt,tt,tt,ff,ff,tt,tt,ff,ff,ff,ff,ff,ff,ff,ff,ff] rfl rfl HT_ ?_;refine pu 7 (some 33) #[tt,tt,tt,ff,ff,tt,tt,tt,ff,ff,ff,ff,ff,ff,ff,ff] rfl rfl HT_ ?_;refine take_ (i:=3) (N:=some 29) (v:=?_) (a':=?_) #[tt,tt,tt,tt,ff,tt,tt,tt,ff,ff,ff,ff,ff,ff,ff,ff] rfl rfl (take_ofW HT_.out HW_.out (Z17)) (fun _ _ _ h=>h) (Or.inl ⟨Z83,?_⟩) hHeld ?_ ?_;rotate_left
        ·rintro w' ⟨s0,s1,s2⟩;go_simp;(with_reducible rfl)
        rotate_left
        ·simp only [Act.put,aQ,zQ,sQ,i64_w,i32_w];rfl
        refine pu 4 (some 30) #[tt,tt,tt,tt,tt,tt,tt,tt,ff,ff,ff,ff,ff,ff,ff,ff] rfl rfl HT_ ?_;refine take_ (i:=8) (N:=some 34) (v:=?_) (a':=?_) #[tt,tt,tt,tt,tt,tt,tt,tt,tt,ff,ff,ff,ff,ff,ff,ff] rfl rfl (take_ofW HT_.out HW_.out (Z17)) (fun _ _ _ h=>h) (Or.inl ⟨Z83,?_⟩) hHeld ?_ ?_;rotate_left
        ·rintro w' ⟨s0,s1,s2⟩;go_simp;(with_reducible rfl)
        rotate_left
        ·simp only [Act.put,aQ,zQ,sQ,i64_w,i32_w];rfl
        refine join_ (σ:=Nat) 2 #[tt,tt,tt,tt,tt,tt,tt,tt,tt,tt,tt,tt,tt,tt,ff,ff] (fun s_=>[(35,.tuple #[.agg #[.int .i64 t600,.int .i64 t601],.bool true]),(8,.pointer (some ⟨s_,0,none⟩)),(25,.tuple #[.agg #[.int .i64 t600,.int .i64 t601],.bool true]),(36,.agg #[.int .i64 t600,.int .i64 t601]),(37,.bool true)]) (fun s_ w'=>(w'.cell? (ad598.add (x7_1).toNat)=some (.int .i64 (rd l0 x7_1))∧w'.cell? (ad599.add ((x7_1).toNat*2))=some (.int .i64 ((rd_T26 l1 x7_1).f0))∧w'.cell? ⟨(ad599.add ((x7_1).toNat*2)).block,(ad599.add ((x7_1).toNat*2)).off+1,none⟩=some (.int .i64 ((rd_T26 l1 x7_1).f1)))∧(w'.heap[gb596]?=some (.cells #[.int .i64 x597000_1,.int .i64 x597001_1] 26 (0,0)))∧(w'.heap[gb597]?=some (.cells #[.int .i64 x598000_1,.int .i64 x598001_1] 26 (0,0)))∧(w'.heap[s_]?=some (.cells #[.int .i64 0,.int .i64 0] 26 (0,0)))∧(w.heap.size≤s_)∧(w.heap.size≤s_)∧(gb596≠s_)∧(s_≠gb596)∧(gb597≠s_)∧(s_≠gb597)∧(Below w.heap.size w w')) ?_ ?_;rotate_left
        ·intro hCont;refine two_ (i:=9) (j:=13) (Ni:=some 35) (Nj:=some 8) #[tt,tt,tt,tt,tt,tt,tt,tt,tt,tt,ff,ff,ff,ff,ff,ff] #[tt,tt,tt,tt,tt,tt,tt,tt,tt,ff,ff,ff,ff,tt,ff,ff] rfl rfl rfl rfl (two_of HT_.out (Z17)) (Z19) (Z19) (fun K hK=>?_) (fun K hK=>?_)
         ·skip
          refine gs Try.func75 #[.agg #[.int .i64 (rd l0 x7_1),.int .i64 1],.agg #[.int .i64 ((rd_T26 l1 x7_1).f0),.int .i64 ((rd_T26 l1 x7_1).f1)]] ?_;(with_reducible refine (impl_TimesRatios.calls kj6 (rd l0 x7_1) 1 ((rd_T26 l1 x7_1).f0) ((rd_T26 l1 x7_1).f1) t600 t601 true _ A13.out).mono ?_);rintro e w36 ⟨rfl,hb⟩;refine ⟨_,rfl,?_⟩;replace BK596:=aM (blk_below (g:=gb596) (o:=.cells #[.int .i64 x597000_1,.int .i64 x597001_1] 26 (0,0)) (zk BK596.out) hb);replace BK597:=aM (blk_below (g:=gb597) (o:=.cells #[.int .i64 x598000_1,.int .i64 x598001_1] 26 (0,0)) (zk BK597.out) hb);replace HB:=aM (below_step (zs HB.out) hb);(try clear hb);refine hK.out _ _ ⟨(zx HB.out hw598_0),(zx HB.out hw599_0),(zx HB.out hw599_1)⟩ (fun hHeld=>?_);clear hK K;refine norm_ (a':=?_) ?_ ?_;rotate_left
          ·show Act.put _ (some 35) _=_;simp only [Act.put,aQ,zQ,sQ,i64_w,i32_w];rfl
          refine pu 10 (some 25) #[tt,tt,tt,tt,tt,tt,tt,tt,tt,tt,tt,ff,ff,ff,ff,ff] rfl rfl HT_ ?_;refine pu 11 (some 36) #[tt,tt,tt,tt,tt,tt,tt,tt,tt,tt,tt,tt,ff,ff,ff,ff] rfl rfl HT_ ?_;refine pu 12 (some 37) #[tt,tt,tt,tt,tt,tt,tt,tt,tt,tt,tt,tt,tt,ff,ff,ff] rfl rfl HT_ ?_;refine one_ (i:=13) (N:=some 8) #[tt,tt,tt,tt,tt,tt,tt,tt,tt,tt,tt,tt,tt,tt,ff,ff] rfl rfl (one_of HT_.out (Z17)) (Z19) (fun K hK=>?_);refine box_step ?hg (N:=8) ?hd (cs:=#[.int .i64 0,.int .i64 0]) (t:=26) ?hr ?_;(case hd=>rfl);(case hg=>rfl);(case hr=>exact (Z9));intro gb603 hg w37 hbox hb;have BK603:=aM (hbox);have GW603:=aM ((zg hg (zs HB.out)));have GE603:=aM ((zg hg (zs HB.out)));replace HB:=aM (below_step (zs HB.out) hb);have NB596_603:=aM ((zl hg (zk BK596.out)));have NB603_596:=aM ((zm hg (zk BK596.out)));replace BK596:=aM (blk_below (g:=gb596) (o:=.cells #[.int .i64 x597000_1,.int .i64 x597001_1] 26 (0,0)) (zk BK596.out) hb);have NB597_603:=aM ((zl hg (zk BK597.out)));have NB603_597:=aM ((zm hg (zk BK597.out)));replace BK597:=aM (blk_below (g:=gb597) (o:=.cells #[.int .i64 x598000_1,.int .i64 x598001_1] 26 (0,0)) (zk BK597.out) hb);clear hb hbox hg;refine hK.out _ _ ⟨(zx HB.out hw598_0),(zx HB.out hw599_0),(zx HB.out hw599_1)⟩ (fun hHeld=>?_);clear hK K;refine norm_ (a':=?_) ?_ ?_;rotate_left
          ·show Act.put _ (some 8) _=_;simp only [Act.put,aQ,zQ,sQ,i64_w,i32_w];rfl
          exact norm_ (Z41) (hCont (gb603) _ ⟨hHeld,(zk BK596.out),(zk BK597.out),(zk BK603.out),GW603.out,GE603.out,NB596_603.out,NB603_596.out,NB597_603.out,NB603_597.out,(zs HB.out)⟩)
         ·skip
          refine box_step ?hg (N:=8) ?hd (cs:=#[.int .i64 0,.int .i64 0]) (t:=26) ?hr ?_;(case hd=>rfl);(case hg=>rfl);(case hr=>exact (Z9));intro gb603 hg w36 hbox hb;have BK603:=aM (hbox);have GW603:=aM ((zg hg (zs HB.out)));have GE603:=aM ((zg hg (zs HB.out)));replace HB:=aM (below_step (zs HB.out) hb);have NB596_603:=aM ((zl hg (zk BK596.out)));have NB603_596:=aM ((zm hg (zk BK596.out)));replace BK596:=aM (blk_below (g:=gb596) (o:=.cells #[.int .i64 x597000_1,.int .i64 x597001_1] 26 (0,0)) (zk BK596.out) hb);have NB597_603:=aM ((zl hg (zk BK597.out)));have NB603_597:=aM ((zm hg (zk BK597.out)));replace BK597:=aM (blk_below (g:=gb597) (o:=.cells #[.int .i64 x598000_1,.int .i64 x598001_1] 26 (0,0)) (zk BK597.out) hb);clear hb hbox hg;refine hK.out _ _ ⟨(zx HB.out hw598_0),(zx HB.out hw599_0),(zx HB.out hw599_1)⟩ (fun hHeld=>?_);clear hK K;refine norm_ (a':=?_) ?_ ?_;rotate_left
          ·show Act.put _ (some 8) _=_;simp only [Act.put,aQ,zQ,sQ,i64_w,i32_w];rfl
          refine one_ (i:=9) (N:=some 35) #[tt,tt,tt,tt,tt,tt,tt,tt,tt,tt,ff,ff,ff,tt,ff,ff] rfl rfl (one_of HT_.out (Z17)) (Z19) (fun K hK=>?_);refine gs Try.func75 #[.agg #[.int .i64 (rd l0 x7_1),.int .i64 1],.agg #[.int .i64 ((rd_T26 l1 x7_1).f0),.int .i64 ((rd_T26 l1 x7_1).f1)]] ?_;(with_reducible refine (impl_TimesRatios.calls kj6 (rd l0 x7_1) 1 ((rd_T26 l1 x7_1).f0) ((rd_T26 l1 x7_1).f1) t600 t601 true _ A13.out).mono ?_);rintro e w37 ⟨rfl,hb⟩;refine ⟨_,rfl,?_⟩;replace BK596:=aM (blk_below (g:=gb596) (o:=.cells #[.int .i64 x597000_1,.int .i64 x597001_1] 26 (0,0)) (zk BK596.out) hb);replace BK597:=aM (blk_below (g:=gb597) (o:=.cells #[.int .i64 x598000_1,.int .i64 x598001_1] 26 (0,0)) (zk BK597.out) hb);replace BK603:=aM (blk_below (g:=gb603) (o:=.cells #[.int .i64 0,.int .i64 0] 26 (0,0)) (zk BK603.out) hb);replace HB:=aM (below_step (zs HB.out) hb);(try clear hb);refine hK.out _ _ ⟨(zx HB.out hw598_0),(zx HB.out hw599_0),(zx HB.out hw599_1)⟩ (fun hHeld=>?_);clear hK K;refine norm_ (a':=?_) ?_ ?_;rotate_left
          ·show Act.put _ (some 35) _=_;simp only [Act.put,aQ,zQ,sQ,i64_w,i32_w];rfl
          refine pu 10 (some 25) #[tt,tt,tt,tt,tt,tt,tt,tt,tt,tt,tt,ff,ff,tt,ff,ff] rfl rfl HT_ ?_;refine pu 11 (some 36) #[tt,tt,tt,tt,tt,tt,tt,tt,tt,tt,tt,tt,ff,tt,ff,ff] rfl rfl HT_ ?_;refine pu 12 (some 37) #[tt,tt,tt,tt,tt,tt,tt,tt,tt,tt,tt,tt,tt,tt,ff,ff] rfl rfl HT_ ?_;exact norm_ (Z41) (hCont (gb603) _ ⟨hHeld,(zk BK596.out),(zk BK597.out),(zk BK603.out),GW603.out,GE603.out,NB596_603.out,NB603_596.out,NB597_603.out,NB603_597.out,(zs HB.out)⟩)
        rintro gb603 w38 ⟨hS_,h0_,h1_,h2_,h3_,h4_,h5_,h6_,h7_,h8_,h9_⟩;replace BK596:Aside0 (w38.heap[gb596]?=some (.cells #[.int .i64 x597000_1,.int .i64 x597001_1] 26 (0,0))):=⟨h0_⟩;replace BK597:Aside0 (w38.heap[gb597]?=some (.cells #[.int .i64 x598000_1,.int .i64 x598001_1] 26 (0,0))):=⟨h1_⟩;have BK603:Aside0 (w38.heap[gb603]?=some (.cells #[.int .i64 0,.int .i64 0] 26 (0,0))):=⟨h2_⟩;have GW603:Aside0 (w.heap.size≤gb603):=⟨h3_⟩;have GE603:Aside0 (w.heap.size≤gb603):=⟨h4_⟩;have NB596_603:Aside0 (gb596≠gb603):=⟨h5_⟩;have NB603_596:Aside0 (gb603≠gb596):=⟨h6_⟩;have NB597_603:Aside0 (gb597≠gb603):=⟨h7_⟩;have NB603_597:Aside0 (gb603≠gb597):=⟨h8_⟩;replace HB:Aside0 (Below w.heap.size w w38):=⟨h9_⟩;clear h0_ h1_ h2_ h3_ h4_ h5_ h6_ h7_ h8_ h9_;have hHeld:w38.cell? (ad598.add (x7_1).toNat)=some (.int .i64 (rd l0 x7_1))∧w38.cell? (ad599.add ((x7_1).toNat*2))=some (.int .i64 ((rd_T26 l1 x7_1).f0))∧w38.cell? ⟨(ad599.add ((x7_1).toNat*2)).block,(ad599.add ((x7_1).toNat*2)).off+1,none⟩=some (.int .i64 ((rd_T26 l1 x7_1).f1)):=hS_;refine norm_ (a':=?_) ?_ ?_;rotate_left
        ·simp only [putAll,Act.put,aQ,zQ,sQ];rfl
        refine one_ (i:=14) (N:=none) #[tt,tt,tt,tt,tt,tt,tt,tt,tt,tt,tt,tt,tt,tt,tt,ff] rfl rfl (one_of HT_.out (Z17)) (Z19) (fun K hK=>?_);have hs39:w38.cell? ⟨gb603,0,none⟩=some (.int .i64 0):=(blk_cell BK603.out 0).trans rfl;have hfs39:=blk_frozen BK603.out 0;have hns39_0:=NB596_603.out;have hns39_1:=NB597_603.out;have hms39_0:=NB603_596.out;have hms39_1:=NB603_597.out;have hs40:w38.cell? ⟨gb603,1,none⟩=some (.int .i64 0):=(blk_cell BK603.out 1).trans rfl;have hfs40:=blk_frozen BK603.out 1;have hns40_0:=NB596_603.out;have hns40_1:=NB597_603.out;have hms40_0:=NB603_596.out;have hms40_1:=NB603_597.out;refine skip_ (w1:=?_) (Z83) rfl ?_ ?_;rotate_left
        ·go_simp;rfl
        refine hK.out _ _ ⟨((cell_far (p:=⟨gb603,_,none⟩) (Z5 hw598_0 GW603.out) _).trans (((cell_far (p:=⟨gb603,_,none⟩) (Z5 hw598_0 GW603.out) _).trans (hHeld.1)))),((cell_far (p:=⟨gb603,_,none⟩) (Z5 hw599_0 GW603.out) _).trans (((cell_far (p:=⟨gb603,_,none⟩) (Z5 hw599_0 GW603.out) _).trans (hHeld.2.1)))),((cell_far (p:=⟨gb603,_,none⟩) (Z5 hw599_1 GW603.out) _).trans (((cell_far (p:=⟨gb603,_,none⟩) (Z5 hw599_1 GW603.out) _).trans (hHeld.2.2))))⟩ (fun hHeld=>?_);clear hK K;refine pu 15 (some 9) #[tt,tt,tt,tt,tt,tt,tt,tt,tt,tt,tt,tt,tt,tt,tt,tt] rfl rfl HT_ ?_;refine done_ (done_of HT_.out (Z17)) ?_;have hnb41:=NB597_596.out;have hnc41:=NB596_597.out;have hnb42:=NB597_603.out;have hnc42:=NB603_597.out;have hcz43_0:w38.cell? ⟨gb597,0,none⟩=some (.int .i64 x598000_1):=(blk_cell BK597.out 0).trans rfl;have hcz43_1:w38.cell? ⟨gb597,1,none⟩=some (.int .i64 x598001_1):=(blk_cell BK597.out 1).trans rfl;have hfz43_0:=blk_frozen BK597.out 0;have hfz43_1:=blk_frozen BK597.out 1;have hnb44:=NB603_596.out;have hnc44:=NB596_603.out;have hcz45_0:w38.cell? ⟨gb603,0,none⟩=some (.int .i64 0):=(blk_cell BK603.out 0).trans rfl;have hcz45_1:w38.cell? ⟨gb603,1,none⟩=some (.int .i64 0):=(blk_cell BK603.out 1).trans rfl;have hfz45_0:=blk_frozen BK603.out 0;have hfz45_1:=blk_frozen BK603.out 1;(try go_wp2_with (first|((with_reducible refine gate_callee (f:=76) rfl ?_);refine gm (some 41) Try.func76 #[.agg #[.int .i64 x598000_1,.int .i64 x598001_1],.agg #[.int .i64 t600,.int .i64 t601]] ?_;(with_reducible refine (impl_AddRatios.calls kj6 x598000_1 x598001_1 t600 t601 t604 t605 false _ A14.out).mono ?_);rintro e w46 ⟨rfl,hb⟩;refine ⟨_,rfl,?_⟩;replace BK596:=aM (blk_below (g:=gb596) (o:=.cells #[.int .i64 x597000_1,.int .i64 x597001_1] 26 (0,0)) (Z6 NB596_603.out BK596.out) hb);replace BK597:=aM (blk_below (g:=gb597) (o:=.cells #[.int .i64 x598000_1,.int .i64 x598001_1] 26 (0,0)) (Z6 NB597_603.out BK597.out) hb);replace BK603:=aM (blk_below (g:=gb603) (o:=.cells #[.int .i64 t600,.int .i64 t601] 26 (0,0)) (Z33 BK603.out) hb);replace HB:=aM (below_step (zs HB.out) hb);(try clear hb);(try clear hi))|((with_reducible refine gate_dst (N:=10) rfl ?_);(try (refine gate_guard (Z83) ?_;dsimp only));refine box_event ?hg (N:=10) ?hd (cs:=#[.int .i64 0,.int .i64 0]) (t:=26) ?hr ?_;(case hd=>rfl);(case hg=>rfl);(case hr=>exact (Z9));intro gb607 hg w47 hbox hb;have BK607:=aM (hbox);have GW607:=aM ((zg hg (zs HB.out)));have GE607:=aM ((zg hg (zs HB.out)));replace HB:=aM (below_step (zs HB.out) hb);have NB596_607:=aM ((zl hg (zk BK596.out)));have NB607_596:=aM ((zm hg (zk BK596.out)));replace BK596:=aM (blk_below (g:=gb596) (o:=.cells #[.int .i64 x597000_1,.int .i64 x597001_1] 26 (0,0)) (zk BK596.out) hb);have NB597_607:=aM ((zl hg (zk BK597.out)));have NB607_597:=aM ((zm hg (zk BK597.out)));replace BK597:=aM (blk_below (g:=gb597) (o:=.cells #[.int .i64 x598000_1,.int .i64 x598001_1] 26 (0,0)) (zk BK597.out) hb);have NB603_607:=aM ((zl hg (zk BK603.out)));have NB607_603:=aM ((zm hg (zk BK603.out)));replace BK603:=aM (blk_below (g:=gb603) (o:=.cells #[.int .i64 t600,.int .i64 t601] 26 (0,0)) (zk BK603.out) hb);clear hb hbox hg;have hnb48:=NB607_596.out;have hnc48:=NB596_607.out;have hnb49:=NB607_597.out;have hnc49:=NB597_607.out;have hnb50:=NB607_603.out;have hnc50:=NB603_607.out;have hcz51_0:w47.cell? ⟨gb607,0,none⟩=some (.int .i64 0):=(blk_cell BK607.out 0).trans rfl;have hcz51_1:w47.cell? ⟨gb607,1,none⟩=some (.int .i64 0):=(blk_cell BK607.out 1).trans rfl;have hfz51_0:=blk_frozen BK607.out 0;have hfz51_1:=blk_frozen BK607.out 1;have hcz52_0:w47.cell? ⟨gb596,0,none⟩=some (.int .i64 x597000_1):=(blk_cell BK596.out 0).trans rfl;have hcz52_1:w47.cell? ⟨gb596,1,none⟩=some (.int .i64 x597001_1):=(blk_cell BK596.out 1).trans rfl;have hfz52_0:=blk_frozen BK596.out 0;have hfz52_1:=blk_frozen BK596.out 1)));refine bodyPost_ret (results_ct rfl _ _ gb596 26 #[.int .i64 0,.int .i64 0] (0,0) _ rfl (Z39 NB596_607.out BK596.out) Try.underlying26 rfl (Z17)) rfl ?_;exact ⟨Z7,zs HB.out⟩
      ·replace c15:=Bool.eq_false_iff.mpr c15;subst c15;replace H:=ifF H;simp only [Option.some.injEq,Prod.mk.injEq] at H;obtain ⟨rfl,rfl,rfl⟩:=H;(try go_wp2);replace BK596:=aM (blk_drew BK596.out);replace BK597:=aM (blk_drew BK597.out);replace HB:=aM (below_drew1 HB.out);have p598:0≤(x7_1:Int):=zd;have q598:x7_1<(l0.length:Int):=zd;obtain ⟨ad598,e598,hx598_0⟩:=Kd.at_int HR0.out x7_1 p598 q598;have hw598_0:=hx598_0;cases e598;replace hx598_0:=zx HB.out hx598_0;replace p598:=eq_true p598;replace q598:=eq_true q598;have p599:0≤(x7_1:Int):=zd;have q599:x7_1<(l1.length:Int):=zd;obtain ⟨ad599,e599,hx599_0,hx599_1⟩:=at_T26 HR1.out x7_1 p599 q599;have hw599_1:=hx599_1;have hw599_0:=hx599_0;cases e599;replace hx599_0:=zx HB.out hx599_0;replace hx599_1:=zx HB.out hx599_1;replace p599:=eq_true p599;replace q599:=eq_true q599;refine start_ (n:=16) (S:=fun w'=>w'.cell? (ad598.add (x7_1).toNat)=some (.int .i64 (rd l0 x7_1))∧w'.cell? (ad599.add ((x7_1).toNat*2))=some (.int .i64 ((rd_T26 l1 x7_1).f0))∧w'.cell? ⟨(ad599.add ((x7_1).toNat*2)).block,(ad599.add ((x7_1).toNat*2)).off+1,none⟩=some (.int .i64 ((rd_T26 l1 x7_1).f1))) (ds:=[]) #[ff,ff,ff,ff,ff,ff,ff,ff,ff,ff,ff,ff,ff,ff,ff,ff] (Z17) rfl rfl ⟨(zx HB.out hw598_0),(zx HB.out hw599_0),(zx HB.out hw599_1)⟩ (fun hHeld=>?_);refine with_tabW laws_rowSum.tab5 laws_rowSum.bits5 (fun HT_ HW_=>?_);generalize wc.drew=w53 at BK596 BK597 HB hx598_0 hx599_0 hx599_1 hHeld ⊢;refine pu 0 (some 26) #[tt,ff,ff,ff,ff,ff,ff,ff,ff,ff,ff,ff,ff,ff,ff,ff] rfl rfl HT_ ?_;refine pu 1 (some 27) #[tt,tt,ff,ff,ff,ff,ff,ff,ff,ff,ff,ff,ff,ff,ff,ff] rfl rfl HT_ ?_;refine pu 2 (some 28) #[tt,tt,tt,ff,ff,ff,ff,ff,ff,ff,ff,ff,ff,ff,ff,ff] rfl rfl HT_ ?_;refine pu 5 (some 31) #[tt,tt,tt,ff,ff,tt,ff,ff,ff,ff,ff,ff,ff,ff,ff,ff] rfl rfl HT_ ?_;refine pu 6 (some 32) #[tt,tt,tt,ff,ff,tt,tt,ff,ff,ff,ff,ff,ff,ff,ff,ff] rfl rfl HT_ ?_;refine pu 7 (some 33) #[tt,tt,tt,ff,ff,tt,tt,tt,ff,ff,ff,ff,ff,ff,ff,ff] rfl rfl HT_ ?_;refine take_ (i:=3) (N:=some 29) (v:=?_) (a':=?_) #[tt,tt,tt,tt,ff,tt,tt,tt,ff,ff,ff,ff,ff,ff,ff,ff] rfl rfl (take_ofW HT_.out HW_.out (Z17)) (fun _ _ _ h=>h) (Or.inl ⟨Z83,?_⟩) hHeld ?_ ?_;rotate_left
       ·rintro w' ⟨s0,s1,s2⟩;go_simp;(with_reducible rfl)
       rotate_left
       ·simp only [Act.put,aQ,zQ,sQ,i64_w,i32_w];rfl
       refine pu 4 (some 30) #[tt,tt,tt,tt,tt,tt,tt,tt,ff,ff,ff,ff,ff,ff,ff,ff] rfl rfl HT_ ?_;refine take_ (i:=8) (N:=some 34) (v:=?_) (a':=?_) #[tt,tt,tt,tt,tt,tt,tt,tt,tt,ff,ff,ff,ff,ff,ff,ff] rfl rfl (take_ofW HT_.out HW_.out (Z17)) (fun _ _ _ h=>h) (Or.inl ⟨Z83,?_⟩) hHeld ?_ ?_;rotate_left
       ·rintro w' ⟨s0,s1,s2⟩;go_simp;(with_reducible rfl)
       rotate_left
       ·simp only [Act.put,aQ,zQ,sQ,i64_w,i32_w];rfl
       refine join_ (σ:=Nat) 2 #[tt,tt,tt,tt,tt,tt,tt,tt,tt,tt,tt,tt,tt,tt,ff,ff] (fun s_=>[(35,.tuple #[.agg #[.int .i64 t600,.int .i64 t601],.bool false]),(8,.pointer (some ⟨s_,0,none⟩)),(25,.tuple #[.agg #[.int .i64 t600,.int .i64 t601],.bool false]),(36,.agg #[.int .i64 t600,.int .i64 t601]),(37,.bool false)]) (fun s_ w'=>(w'.cell? (ad598.add (x7_1).toNat)=some (.int .i64 (rd l0 x7_1))∧w'.cell? (ad599.add ((x7_1).toNat*2))=some (.int .i64 ((rd_T26 l1 x7_1).f0))∧w'.cell? ⟨(ad599.add ((x7_1).toNat*2)).block,(ad599.add ((x7_1).toNat*2)).off+1,none⟩=some (.int .i64 ((rd_T26 l1 x7_1).f1)))∧(w'.heap[gb596]?=some (.cells #[.int .i64 x597000_1,.int .i64 x597001_1] 26 (0,0)))∧(w'.heap[gb597]?=some (.cells #[.int .i64 x598000_1,.int .i64 x598001_1] 26 (0,0)))∧(w'.heap[s_]?=some (.cells #[.int .i64 0,.int .i64 0] 26 (0,0)))∧(w.heap.size≤s_)∧(w.heap.size≤s_)∧(gb596≠s_)∧(s_≠gb596)∧(gb597≠s_)∧(s_≠gb597)∧(Below w.heap.size w w')) ?_ ?_;rotate_left
       ·intro hCont;refine two_ (i:=9) (j:=13) (Ni:=some 35) (Nj:=some 8) #[tt,tt,tt,tt,tt,tt,tt,tt,tt,tt,ff,ff,ff,ff,ff,ff] #[tt,tt,tt,tt,tt,tt,tt,tt,tt,ff,ff,ff,ff,tt,ff,ff] rfl rfl rfl rfl (two_of HT_.out (Z17)) (Z19) (Z19) (fun K hK=>?_) (fun K hK=>?_)
        ·skip
         refine gs Try.func75 #[.agg #[.int .i64 (rd l0 x7_1),.int .i64 1],.agg #[.int .i64 ((rd_T26 l1 x7_1).f0),.int .i64 ((rd_T26 l1 x7_1).f1)]] ?_;(with_reducible refine (impl_TimesRatios.calls kj6 (rd l0 x7_1) 1 ((rd_T26 l1 x7_1).f0) ((rd_T26 l1 x7_1).f1) t600 t601 false _ A13.out).mono ?_);rintro e w54 ⟨rfl,hb⟩;refine ⟨_,rfl,?_⟩;replace BK596:=aM (blk_below (g:=gb596) (o:=.cells #[.int .i64 x597000_1,.int .i64 x597001_1] 26 (0,0)) (zk BK596.out) hb);replace BK597:=aM (blk_below (g:=gb597) (o:=.cells #[.int .i64 x598000_1,.int .i64 x598001_1] 26 (0,0)) (zk BK597.out) hb);replace HB:=aM (below_step (zs HB.out) hb);(try clear hb);refine hK.out _ _ ⟨(zx HB.out hw598_0),(zx HB.out hw599_0),(zx HB.out hw599_1)⟩ (fun hHeld=>?_);clear hK K;refine norm_ (a':=?_) ?_ ?_;rotate_left
         ·show Act.put _ (some 35) _=_;simp only [Act.put,aQ,zQ,sQ,i64_w,i32_w];rfl
         refine pu 10 (some 25) #[tt,tt,tt,tt,tt,tt,tt,tt,tt,tt,tt,ff,ff,ff,ff,ff] rfl rfl HT_ ?_;refine pu 11 (some 36) #[tt,tt,tt,tt,tt,tt,tt,tt,tt,tt,tt,tt,ff,ff,ff,ff] rfl rfl HT_ ?_;refine pu 12 (some 37) #[tt,tt,tt,tt,tt,tt,tt,tt,tt,tt,tt,tt,tt,ff,ff,ff] rfl rfl HT_ ?_;refine one_ (i:=13) (N:=some 8) #[tt,tt,tt,tt,tt,tt,tt,tt,tt,tt,tt,tt,tt,tt,ff,ff] rfl rfl (one_of HT_.out (Z17)) (Z19) (fun K hK=>?_);refine box_step ?hg (N:=8) ?hd (cs:=#[.int .i64 0,.int .i64 0]) (t:=26) ?hr ?_;(case hd=>rfl);(case hg=>rfl);(case hr=>exact (Z9));intro gb603 hg w55 hbox hb;have BK603:=aM (hbox);have GW603:=aM ((zg hg (zs HB.out)));have GE603:=aM ((zg hg (zs HB.out)));replace HB:=aM (below_step (zs HB.out) hb);have NB596_603:=aM ((zl hg (zk BK596.out)));have NB603_596:=aM ((zm hg (zk BK596.out)));replace BK596:=aM (blk_below (g:=gb596) (o:=.cells #[.int .i64 x597000_1,.int .i64 x597001_1] 26 (0,0)) (zk BK596.out) hb);have NB597_603:=aM ((zl hg (zk BK597.out)));have NB603_597:=aM ((zm hg (zk BK597.out)));replace BK597:=aM (blk_below (g:=gb597) (o:=.cells #[.int .i64 x598000_1,.int .i64 x598001_1] 26 (0,0)) (zk BK597.out) hb);clear hb hbox hg;refine hK.out _ _ ⟨(zx HB.out hw598_0),(zx HB.out hw599_0),(zx HB.out hw599_1)⟩ (fun hHeld=>?_);clear hK K;refine norm_ (a':=?_) ?_ ?_;rotate_left
         ·show Act.put _ (some 8) _=_;simp only [Act.put,aQ,zQ,sQ,i64_w,i32_w];rfl
         exact norm_ (Z41) (hCont (gb603) _ ⟨hHeld,(zk BK596.out),(zk BK597.out),(zk BK603.out),GW603.out,GE603.out,NB596_603.out,NB603_596.out,NB597_603.out,NB603_597.out,(zs HB.out)⟩)
        ·skip
         refine box_step ?hg (N:=8) ?hd (cs:=#[.int .i64 0,.int .i64 0]) (t:=26) ?hr ?_;(case hd=>rfl);(case hg=>rfl);(case hr=>exact (Z9));intro gb603 hg w54 hbox hb;have BK603:=aM (hbox);have GW603:=aM ((zg hg (zs HB.out)));have GE603:=aM ((zg hg (zs HB.out)));replace HB:=aM (below_step (zs HB.out) hb);have NB596_603:=aM ((zl hg (zk BK596.out)));have NB603_596:=aM ((zm hg (zk BK596.out)));replace BK596:=aM (blk_below (g:=gb596) (o:=.cells #[.int .i64 x597000_1,.int .i64 x597001_1] 26 (0,0)) (zk BK596.out) hb);have NB597_603:=aM ((zl hg (zk BK597.out)));have NB603_597:=aM ((zm hg (zk BK597.out)));replace BK597:=aM (blk_below (g:=gb597) (o:=.cells #[.int .i64 x598000_1,.int .i64 x598001_1] 26 (0,0)) (zk BK597.out) hb);clear hb hbox hg;refine hK.out _ _ ⟨(zx HB.out hw598_0),(zx HB.out hw599_0),(zx HB.out hw599_1)⟩ (fun hHeld=>?_);clear hK K;refine norm_ (a':=?_) ?_ ?_;rotate_left
         ·show Act.put _ (some 8) _=_;simp only [Act.put,aQ,zQ,sQ,i64_w,i32_w];rfl
         refine one_ (i:=9) (N:=some 35) #[tt,tt,tt,tt,tt,tt,tt,tt,tt,tt,ff,ff,ff,tt,ff,ff] rfl rfl (one_of HT_.out (Z17)) (Z19) (fun K hK=>?_);refine gs Try.func75 #[.agg #[.int .i64 (rd l0 x7_1),.int .i64 1],.agg #[.int .i64 ((rd_T26 l1 x7_1).f0),.int .i64 ((rd_T26 l1 x7_1).f1)]] ?_;(with_reducible refine (impl_TimesRatios.calls kj6 (rd l0 x7_1) 1 ((rd_T26 l1 x7_1).f0) ((rd_T26 l1 x7_1).f1) t600 t601 false _ A13.out).mono ?_);rintro e w55 ⟨rfl,hb⟩;refine ⟨_,rfl,?_⟩;replace BK596:=aM (blk_below (g:=gb596) (o:=.cells #[.int .i64 x597000_1,.int .i64 x597001_1] 26 (0,0)) (zk BK596.out) hb);replace BK597:=aM (blk_below (g:=gb597) (o:=.cells #[.int .i64 x598000_1,.int .i64 x598001_1] 26 (0,0)) (zk BK597.out) hb);replace BK603:=aM (blk_below (g:=gb603) (o:=.cells #[.int .i64 0,.int .i64 0] 26 (0,0)) (zk BK603.out) hb);replace HB:=aM (below_step (zs HB.out) hb);(try clear hb);refine hK.out _ _ ⟨(zx HB.out hw598_0),(zx HB.out hw599_0),(zx HB.out hw599_1)⟩ (fun hHeld=>?_);clear hK K;refine norm_ (a':=?_) ?_ ?_;rotate_left
         ·show Act.put _ (some 35) _=_;simp only [Act.put,aQ,zQ,sQ,i64_w,i32_w];rfl
         refine pu 10 (some 25) #[tt,tt,tt,tt,tt,tt,tt,tt,tt,tt,tt,ff,ff,tt,ff,ff] rfl rfl HT_ ?_;refine pu 11 (some 36) #[tt,tt,tt,tt,tt,tt,tt,tt,tt,tt,tt,tt,ff,tt,ff,ff] rfl rfl HT_ ?_;refine pu 12 (some 37) #[tt,tt,tt,tt,tt,tt,tt,tt,tt,tt,tt,tt,tt,tt,ff,ff] rfl rfl HT_ ?_;exact norm_ (Z41) (hCont (gb603) _ ⟨hHeld,(zk BK596.out),(zk BK597.out),(zk BK603.out),GW603.out,GE603.out,NB596_603.out,NB603_596.out,NB597_603.out,NB603_597.out,(zs HB.out)⟩)
       rintro gb603 w56 ⟨hS_,h0_,h1_,h2_,h3_,h4_,h5_,h6_,h7_,h8_,h9_⟩;replace BK596:Aside0 (w56.heap[gb596]?=some (.cells #[.int .i64 x597000_1,.int .i64 x597001_1] 26 (0,0))):=⟨h0_⟩;replace BK597:Aside0 (w56.heap[gb597]?=some (.cells #[.int .i64 x598000_1,.int .i64 x598001_1] 26 (0,0))):=⟨h1_⟩;have BK603:Aside0 (w56.heap[gb603]?=some (.cells #[.int .i64 0,.int .i64 0] 26 (0,0))):=⟨h2_⟩;have GW603:Aside0 (w.heap.size≤gb603):=⟨h3_⟩;have GE603:Aside0 (w.heap.size≤gb603):=⟨h4_⟩;have NB596_603:Aside0 (gb596≠gb603):=⟨h5_⟩;have NB603_596:Aside0 (gb603≠gb596):=⟨h6_⟩;have NB597_603:Aside0 (gb597≠gb603):=⟨h7_⟩;have NB603_597:Aside0 (gb603≠gb597):=⟨h8_⟩;replace HB:Aside0 (Below w.heap.size w w56):=⟨h9_⟩;clear h0_ h1_ h2_ h3_ h4_ h5_ h6_ h7_ h8_ h9_;have hHeld:w56.cell? (ad598.add (x7_1).toNat)=some (.int .i64 (rd l0 x7_1))∧w56.cell? (ad599.add ((x7_1).toNat*2))=some (.int .i64 ((rd_T26 l1 x7_1).f0))∧w56.cell? ⟨(ad599.add ((x7_1).toNat*2)).block,(ad599.add ((x7_1).toNat*2)).off+1,none⟩=some (.int .i64 ((rd_T26 l1 x7_1).f1)):=hS_;refine norm_ (a':=?_) ?_ ?_;rotate_left
       ·simp only [putAll,Act.put,aQ,zQ,sQ];rfl
       refine one_ (i:=14) (N:=none) #[tt,tt,tt,tt,tt,tt,tt,tt,tt,tt,tt,tt,tt,tt,tt,ff] rfl rfl (one_of HT_.out (Z17)) (Z19) (fun K hK=>?_);have hs57:w56.cell? ⟨gb603,0,none⟩=some (.int .i64 0):=(blk_cell BK603.out 0).trans rfl;have hfs57:=blk_frozen BK603.out 0;have hns57_0:=NB596_603.out;have hns57_1:=NB597_603.out;have hms57_0:=NB603_596.out;have hms57_1:=NB603_597.out;have hs58:w56.cell? ⟨gb603,1,none⟩=some (.int .i64 0):=(blk_cell BK603.out 1).trans rfl;have hfs58:=blk_frozen BK603.out 1;have hns58_0:=NB596_603.out;have hns58_1:=NB597_603.out;have hms58_0:=NB603_596.out;have hms58_1:=NB603_597.out;refine skip_ (w1:=?_) (Z83) rfl ?_ ?_;rotate_left
       ·go_simp;rfl
       refine hK.out _ _ ⟨((cell_far (p:=⟨gb603,_,none⟩) (Z5 hw598_0 GW603.out) _).trans (((cell_far (p:=⟨gb603,_,none⟩) (Z5 hw598_0 GW603.out) _).trans (hHeld.1)))),((cell_far (p:=⟨gb603,_,none⟩) (Z5 hw599_0 GW603.out) _).trans (((cell_far (p:=⟨gb603,_,none⟩) (Z5 hw599_0 GW603.out) _).trans (hHeld.2.1)))),((cell_far (p:=⟨gb603,_,none⟩) (Z5 hw599_1 GW603.out) _).trans (((cell_far (p:=⟨gb603,_,none⟩) (Z5 hw599_1 GW603.out) _).trans (hHeld.2.2))))⟩ (fun hHeld=>?_);clear hK K;refine pu 15 (some 9) #[tt,tt,tt,tt,tt,tt,tt,tt,tt,tt,tt,tt,tt,tt,tt,tt] rfl rfl HT_ ?_;refine done_ (done_of HT_.out (Z17)) ?_;have hnb59:=NB597_596.out;have hnc59:=NB596_597.out;have hnb60:=NB597_603.out;have hnc60:=NB603_597.out;have hcz61_0:w56.cell? ⟨gb597,0,none⟩=some (.int .i64 x598000_1):=(blk_cell BK597.out 0).trans rfl;have hcz61_1:w56.cell? ⟨gb597,1,none⟩=some (.int .i64 x598001_1):=(blk_cell BK597.out 1).trans rfl;have hfz61_0:=blk_frozen BK597.out 0;have hfz61_1:=blk_frozen BK597.out 1;have hnb62:=NB603_596.out;have hnc62:=NB596_603.out;have hcz63_0:w56.cell? ⟨gb603,0,none⟩=some (.int .i64 0):=(blk_cell BK603.out 0).trans rfl;have hcz63_1:w56.cell? ⟨gb603,1,none⟩=some (.int .i64 0):=(blk_cell BK603.out 1).trans rfl;have hfz63_0:=blk_frozen BK603.out 0;have hfz63_1:=blk_frozen BK603.out 1;(try go_wp2_with (first|((with_reducible refine gate_callee (f:=76) rfl ?_);refine gm (some 41) Try.func76 #[.agg #[.int .i64 x598000_1,.int .i64 x598001_1],.agg #[.int .i64 t600,.int .i64 t601]] ?_;(with_reducible refine (impl_AddRatios.calls kj6 x598000_1 x598001_1 t600 t601 t604 t605 t606 _ A14.out).mono ?_);rintro e w64 ⟨rfl,hb⟩;refine ⟨_,rfl,?_⟩;replace BK596:=aM (blk_below (g:=gb596) (o:=.cells #[.int .i64 x597000_1,.int .i64 x597001_1] 26 (0,0)) (Z6 NB596_603.out BK596.out) hb);replace BK597:=aM (blk_below (g:=gb597) (o:=.cells #[.int .i64 x598000_1,.int .i64 x598001_1] 26 (0,0)) (Z6 NB597_603.out BK597.out) hb);replace BK603:=aM (blk_below (g:=gb603) (o:=.cells #[.int .i64 t600,.int .i64 t601] 26 (0,0)) (Z33 BK603.out) hb);replace HB:=aM (below_step (zs HB.out) hb);(try clear hb);(try clear hi))|((with_reducible refine gate_dst (N:=10) rfl ?_);(try (refine gate_guard (Z83) ?_;dsimp only));refine box_event ?hg (N:=10) ?hd (cs:=#[.int .i64 0,.int .i64 0]) (t:=26) ?hr ?_;(case hd=>rfl);(case hg=>rfl);(case hr=>exact (Z9));intro gb607 hg w65 hbox hb;have BK607:=aM (hbox);have GW607:=aM ((zg hg (zs HB.out)));have GE607:=aM ((zg hg (zs HB.out)));replace HB:=aM (below_step (zs HB.out) hb);have NB596_607:=aM ((zl hg (zk BK596.out)));have NB607_596:=aM ((zm hg (zk BK596.out)));replace BK596:=aM (blk_below (g:=gb596) (o:=.cells #[.int .i64 x597000_1,.int .i64 x597001_1] 26 (0,0)) (zk BK596.out) hb);have NB597_607:=aM ((zl hg (zk BK597.out)));have NB607_597:=aM ((zm hg (zk BK597.out)));replace BK597:=aM (blk_below (g:=gb597) (o:=.cells #[.int .i64 x598000_1,.int .i64 x598001_1] 26 (0,0)) (zk BK597.out) hb);have NB603_607:=aM ((zl hg (zk BK603.out)));have NB607_603:=aM ((zm hg (zk BK603.out)));replace BK603:=aM (blk_below (g:=gb603) (o:=.cells #[.int .i64 t600,.int .i64 t601] 26 (0,0)) (zk BK603.out) hb);clear hb hbox hg;have hnb66:=NB607_596.out;have hnc66:=NB596_607.out;have hnb67:=NB607_597.out;have hnc67:=NB597_607.out;have hnb68:=NB607_603.out;have hnc68:=NB603_607.out;have hcz69_0:w65.cell? ⟨gb607,0,none⟩=some (.int .i64 0):=(blk_cell BK607.out 0).trans rfl;have hcz69_1:w65.cell? ⟨gb607,1,none⟩=some (.int .i64 0):=(blk_cell BK607.out 1).trans rfl;have hfz69_0:=blk_frozen BK607.out 0;have hfz69_1:=blk_frozen BK607.out 1;have hcz70_0:w65.cell? ⟨gb596,0,none⟩=some (.int .i64 x597000_1):=(blk_cell BK596.out 0).trans rfl;have hcz70_1:w65.cell? ⟨gb596,1,none⟩=some (.int .i64 x597001_1):=(blk_cell BK596.out 1).trans rfl;have hfz70_0:=blk_frozen BK596.out 0;have hfz70_1:=blk_frozen BK596.out 1)));refine bodyPost_ret (results_ct rfl _ _ gb596 26 #[.int .i64 0,.int .i64 0] (0,0) _ rfl (Z39 NB596_607.out BK596.out) Try.underlying26 rfl (Z17)) rfl ?_;exact ⟨Z7,zs HB.out⟩
     ·replace c9:=Bool.eq_false_iff.mpr c9;subst c9;replace H:=ifF H;simp only [Option.some.injEq,Prod.mk.injEq] at H;obtain ⟨rfl,rfl,rfl⟩:=H;have hnb71:=NB597_596.out;have hnc71:=NB596_597.out;have hcz72_0:wc.cell? ⟨gb597,0,none⟩=some (.int .i64 x598000_1):=(blk_cell BK597.out 0).trans rfl;have hcz72_1:wc.cell? ⟨gb597,1,none⟩=some (.int .i64 x598001_1):=(blk_cell BK597.out 1).trans rfl;have hfz72_0:=blk_frozen BK597.out 0;have hfz72_1:=blk_frozen BK597.out 1;have hcz73_0:wc.cell? ⟨gb596,0,none⟩=some (.int .i64 x597000_1):=(blk_cell BK596.out 0).trans rfl;have hcz73_1:wc.cell? ⟨gb596,1,none⟩=some (.int .i64 x597001_1):=(blk_cell BK596.out 1).trans rfl;have hfz73_0:=blk_frozen BK596.out 0;have hfz73_1:=blk_frozen BK596.out 1;go_wp2;refine bodyPost_ret (results_ct rfl _ _ gb596 26 #[.int .i64 x598000_1,.int .i64 x598001_1] (0,0) _ rfl (by (with_reducible repeat (first|refine blk_drewN ?_ _|refine blk_drew ?_|refine blk_alloc ?_ _));refine blk_put (cs:=#[.int .i64 x598000_1,.int .i64 x597001_1]) ?_ 1 _ rfl;(with_reducible repeat (first|refine blk_drewN ?_ _|refine blk_drew ?_|refine blk_alloc ?_ _));refine blk_put (cs:=#[.int .i64 x597000_1,.int .i64 x597001_1]) ?_ 0 _ rfl;(with_reducible repeat (first|refine blk_drewN ?_ _|refine blk_drew ?_|refine blk_alloc ?_ _));exact BK596.out) Try.underlying26 rfl (Z17)) rfl ?_;exact ⟨Z7,zs HB.out⟩
end Go.Proofs.Ytojkepidkmkmpaa.PFnSolved
end
section
namespace Go.Proofs.Ytojkepidkmkmpaa.PFnSolved
open Go.Proofs.YtojkepidkmkmpaaW.PrintWords.Aside0 renaming mk → aM
open List renaming setIfInBounds_toArray → aQ, set_cons_zero → zQ, set_cons_succ → sQ
open Bool renaming true → tt, false → ff
open Option renaming bind_eq_some_iff → bE

open Go.RowKit Go.Proofs.YtojkepidkmkmpaaW.PrintWords Go.Proofs.YtojkepidkmkmpaaW.PrintLast Go.Proofs.YtojkepidkmkmpaaW.PrintMore
attribute [local go_sem] max2_int min2_int max_two min_two max_three min_three max_four min_four
set_option linter.unusedVariables false
set_option linter.unusedSimpArgs false
attribute [local go_sem high] eqA26
mutual
def laws_FnSolved.j0 : Nat → List (List Int) → List Int → List Int → List (S26) → Bool → Option (Bool)
 | 0, _, _, _, _, _ => none
 | k + 1, x3, x4, x5, x6, x64 => if x64 = true then (some false) else ((impl_ValueOf.f k x3 x4 x5).bind fun bt628 => ((impl_TwoSolutions.f k x3 x4 x5).bind fun bt632 => (if bt628.2.2 = true then (if bt632.2.2 = true then (laws_FnSolved.j1 k x3 x4 x5 x6 bt628.2.2 bt632.1 bt632.2.1 bt632.2.2 true bt628.1 bt628.2.1) else ((impl_IsInSpan.f k x3 x5).bind fun t639 => (laws_FnSolved.j1 k x3 x4 x5 x6 bt628.2.2 bt632.1 bt632.2.1 bt632.2.2 (!t639) bt628.1 bt628.2.1))) else (laws_FnSolved.j1 k x3 x4 x5 x6 bt628.2.2 bt632.1 bt632.2.1 bt632.2.2 false bt628.1 bt628.2.1))))
def laws_FnSolved.j1 : Nat → List (List Int) → List Int → List Int → List (S26) → Bool → List (S26) → List (S26) → Bool → Bool → Int → Int → Option (Bool)
 | 0, _, _, _, _, _, _, _, _, _, _, _ => none
 | k + 1, x3, x4, x5, x6, x11, x12, x13, x14, x92, x632000, x632001 => if x92 = true then (some false) else (if x11 = true then ((laws_rowSum.f k x5 x6).bind fun bt640 => (if bt640.2.2 = true then (some (bt640.1 == x632000 && (bt640.2.1 == x632001))) else (some false))) else (if x14 = true then ((laws_rowSum.f k x5 x12).bind fun bt644 => ((laws_rowSum.f k x5 x13).bind fun bt648 => ((impl_FitsSystem.f k x3 x4 x12).bind fun t652 => (if t652 = true then ((impl_FitsSystem.f k x3 x4 x13).bind fun t653 => (if t653 = true then (if bt644.2.2 = true then (if bt648.2.2 = true then (some (!(bt644.1 == bt648.1) || (!(bt644.2.1 == bt648.2.1)))) else (some false)) else (some false)) else (some false))) else (some false))))) else (some true)))
end
def laws_FnSolved.f (k:Nat) (l0:List Int):Option (Bool):=(laws_big.f l0).bind fun t608=>(if t608=true then (some true) else ((spec_DrawValueOf.f k l0).bind fun bt609=>((impl_SolutionOf.f k bt609.1 bt609.2.1 (bt609.2.2.length:Int)).bind fun bt618=>((spec_SolutionOf.f k bt609.1 bt609.2.1 (bt609.2.2.length:Int)).bind fun bt622=>(if (bt618.2 != bt622.2)=true then (some false) else ((impl_IsSolvable.f k bt609.1 bt609.2.1 (bt609.2.2.length:Int)).bind fun t626=>(if (bt618.2 != t626)=true then (laws_FnSolved.j0 k bt609.1 bt609.2.1 bt609.2.2 bt618.1 true) else (if bt618.2=true then ((impl_FitsSystem.f k bt609.1 bt609.2.1 bt618.1).bind fun t627=>(laws_FnSolved.j0 k bt609.1 bt609.2.1 bt609.2.2 bt618.1 (!t627))) else (laws_FnSolved.j0 k bt609.1 bt609.2.1 bt609.2.2 bt618.1 false)))))))))
set_option maxHeartbeats 8000000 in
set_option maxRecDepth 100000 in
theorem laws_FnSolved.calls (k : Nat) (A0 : Option Addr) (c0 : Nat) (l0 : List Int) (r : Bool) (w : World) (hr0 : Kd.C (Kd.int .u8) w A0 l0.length l0) (hc0 : l0.length ≤ c0) (h : laws_FnSolved.f k l0 = some r) (htrue : r = true) :
 Calls Try.prog 4 #[.slice A0 l0.length c0] w fun e w' => e = .returned (.bool r) ∧ Below w.heap.size w w' := by
 have hu26:=Try.underlying26;have HR0:=aM hr0;have HC0:=aM hc0;clear hr0 hc0;have HB:=aM (Below.refl w.heap.size w);have H:((laws_big.f l0).bind fun t608=>(if t608=true then (some true) else ((spec_DrawValueOf.f k l0).bind fun bt609=>((impl_SolutionOf.f k bt609.1 bt609.2.1 (bt609.2.2.length:Int)).bind fun bt618=>((spec_SolutionOf.f k bt609.1 bt609.2.1 (bt609.2.2.length:Int)).bind fun bt622=>(if (bt618.2 != bt622.2)=true then (some false) else ((impl_IsSolvable.f k bt609.1 bt609.2.1 (bt609.2.2.length:Int)).bind fun t626=>(if (bt618.2 != t626)=true then (laws_FnSolved.j0 k bt609.1 bt609.2.1 bt609.2.2 bt618.1 true) else (if bt618.2=true then ((impl_FitsSystem.f k bt609.1 bt609.2.1 bt618.1).bind fun t627=>(laws_FnSolved.j0 k bt609.1 bt609.2.1 bt609.2.2 bt618.1 (!t627))) else (laws_FnSolved.j0 k bt609.1 bt609.2.1 bt609.2.2 bt618.1 false))))))))))=some r:=h;clear h;obtain ⟨t608,A2,H⟩:=bz H;by_cases c3:t608=true
 ·subst c3;replace H:=ifT H;clear htrue;obtain rfl:=Option.some.inj H;go_enter Try.func4,Try.ntmps4;go_wp2_with (first|((with_reducible refine gate_callee (f:=23) rfl ?_);refine gm (some 22) Try.func23 #[.slice A0 l0.length c0] ?_;(with_reducible refine (laws_big.calls _ _ l0 true _ ?side1 ?side2 A2.out).mono ?_);(case side1=>exact zc HR0.out);(case side2=>exact HC0.out);rintro e w' ⟨rfl,⟨nd,rfl⟩⟩;refine ⟨_,rfl,?_⟩));go_ret;exact ⟨Z7,zb HB.out⟩
 ·replace c3:=Bool.eq_false_iff.mpr c3;subst c3;replace H:=ifF H;obtain ⟨⟨t609,t610,t611⟩,A4,H⟩:=bz H;dsimp only at H;obtain ⟨⟨t618,t619⟩,A5,H⟩:=bz H;dsimp only at H;obtain ⟨⟨t622,t623⟩,A6,H⟩:=bz H;dsimp only at H;by_cases c7:(t619 != t623)=true
  ·rw [if_pos c7] at H;have c7b0:(t619 != t623)=true:=c7;(try (have c7b1:decide (t619=t623)=false:=by simpa using c7));(try (have c7b2:(t619 == t623)=false:=by simpa using c7));(try (have c7b3:¬(t619=t623):=by simpa using c7));clear c7;exact absurd ((Option.some.inj H).trans htrue) (Z19)
  ·rw [if_neg c7] at H;have c7b0:(t619 != t623)=false:=(by simpa using c7);(try (have c7b1:decide (t619=t623)=true:=by simpa using c7));(try (have c7b2:(t619 == t623)=true:=by simpa using c7));clear c7;have HC14:=aM H;clear H;go_enter Try.func4,Try.ntmps4;go_upto_region 8 with (first|((with_reducible refine gate_callee (f:=23) rfl ?_);refine gm (some 22) Try.func23 #[.slice A0 l0.length c0] ?_;(with_reducible refine (laws_big.calls _ _ l0 false _ ?side1 ?side2 A2.out).mono ?_);(case side1=>exact zc HR0.out);(case side2=>exact HC0.out);rintro e w' ⟨rfl,⟨nd,rfl⟩⟩;refine ⟨_,rfl,?_⟩)|((with_reducible refine gate_callee (f:=24) rfl ?_);refine gm (some 25) Try.func24 #[.slice A0 l0.length c0] ?_;(with_reducible refine (spec_DrawValueOf.calls k _ _ l0 t609 t610 t611 _ ?side1 ?side2 A4.out).mono ?_);(case side1=>exact zc HR0.out);(case side2=>exact HC0.out);rintro e w15 ⟨v612,v614,v616,rfl,ho0,ho1,ho2,hb⟩;refine ⟨_,rfl,?_⟩;have HO613:=aM (Kd.S_lower ho0 (below_size (zb HB.out)));have HO615:=aM (Kd.Q_lower ho1 (below_size (zb HB.out)));have HO617:=aM (Kd.R_lower ho2 (below_size (zb HB.out)));replace HB:=aM (below_step (zb HB.out) hb);(try clear hb);(try clear ho0);(try clear ho1);(try clear ho2);obtain ⟨Ao16,co16,eo16⟩:=Kd.R_slice HO617.out;subst eo16;obtain ⟨Ao17,co17,eo17⟩:=Kd.S_slice HO613.out;subst eo17;obtain ⟨Ao18,co18,eo18,_⟩:=Kd.Q_slice HO615.out;subst eo18)|((with_reducible refine gate_callee (f:=25) rfl ?_);refine gm (some 34) Try.func25 #[.slice Ao17 t609.length co17,.slice Ao18 t610.length co18,.int .i64 (t611.length:Int)] ?_;(with_reducible refine (impl_SolutionOf.calls k _ _ t609 _ _ t610 (t611.length:Int) t618 t619 _ ?side1 ?side2 ?side3 ?side4 A5.out).mono ?_);(case side1=>exact zc (Kd.S_reads' HO613.out).2.2);(case side2=>exact (Kd.S_reads' HO613.out).2.1);(case side3=>exact zc (Kd.Q_reads' HO615.out).2.2);(case side4=>exact (Kd.Q_reads' HO615.out).2.1);rintro e w19 ⟨v620,rfl,ho0,hb⟩;refine ⟨_,rfl,?_⟩;replace HO613:=aM (Kd.S_below (Z8 HO613.out) hb);replace HO615:=aM (Kd.Q_below (Z12 HO615.out) hb);replace HO617:=aM (Kd.R_below (zr HO617.out) hb);have HO621:=aM (Kd.R_lower ho0 (below_size (zb HB.out)));replace HB:=aM (below_step (zb HB.out) hb);(try clear hb);(try clear ho0))|((with_reducible refine gate_callee (f:=26) rfl ?_);refine gm (some 42) Try.func26 #[.slice Ao17 t609.length co17,.slice Ao18 t610.length co18,.int .i64 (t611.length:Int)] ?_;(with_reducible refine (spec_SolutionOf.calls k _ _ t609 _ _ t610 (t611.length:Int) t622 t623 _ ?side1 ?side2 ?side3 ?side4 A6.out).mono ?_);(case side1=>exact zc (Kd.S_reads' HO613.out).2.2);(case side2=>exact (Kd.S_reads' HO613.out).2.1);(case side3=>exact zc (Kd.Q_reads' HO615.out).2.2);(case side4=>exact (Kd.Q_reads' HO615.out).2.1);rintro e w20 ⟨v624,rfl,ho0,hb⟩;refine ⟨_,rfl,?_⟩;replace HO613:=aM (Kd.S_below (Z8 HO613.out) hb);replace HO615:=aM (Kd.Q_below (Z12 HO615.out) hb);replace HO617:=aM (Kd.R_below (zr HO617.out) hb);have HO625:=aM (Kd.R_lower (Kd.R_new' ho0 (Kd.R_lt (zr HO621.out))) (below_size (zb HB.out)));replace HO621:=aM (Kd.R_elder' (zr HO621.out) (Kd.R_base ho0) hb);replace HB:=aM (below_step (zb HB.out) hb);(try clear hb);(try clear ho0)))
   (try simp only [Act.put,aQ,zQ,sQ]);go_cut [64] (fun v64 wc=>∃(kq:Nat) (x64_13:Bool),v64 = .bool x64_13∧Aside0 (laws_FnSolved.j0 kq t609 t610 t611 t618 x64_13=some r)∧Aside0 (kq≤k)∧Aside0 (Kd.S (Kd.slice 3 (Kd.int .i64)) 23 wc w.heap.size (fun k_=>some k_≠((.slice Ao18 t610.length co18):Value).ownBlock∧some k_≠((.slice Ao16 t611.length co16):Value).ownBlock) (.slice Ao17 t609.length co17) t609)∧Aside0 (Kd.Q (Kd.int .i64) 3 wc w.heap.size (fun k_=>some k_≠((.slice Ao16 t611.length co16):Value).ownBlock) (.slice Ao18 t610.length co18) t610)∧Aside0 (Kd.R (Kd.int .i64) 3 wc w.heap.size (fun k_=>some k_≠((.slice Ao18 t610.length co18):Value).ownBlock) (.slice Ao16 t611.length co16) t611)∧Aside0 (Kd.R k26 26 wc w.heap.size (fun _=>True) v620 t618)∧Aside0 (Below w.heap.size w wc))
   case first=>
    have H:=HC14.out;clear HC14;obtain ⟨t626,A21,H⟩:=bz H;by_cases c22:(t619 != t626)=true
    ·rw [if_pos c22] at H;have c22b0:(t619 != t626)=true:=c22;(try (have c22b1:decide (t619=t626)=false:=by simpa using c22));(try (have c22b2:(t619 == t626)=false:=by simpa using c22));(try (have c22b3:¬(t619=t626):=by simpa using c22));clear c22;(first|rw [c22b0]|(simp only [i64_w,i32_w];rw [c22b0])|skip);have H':=aM H;clear H;go_wp2_with (first|((with_reducible refine gate_callee (f:=27) rfl ?_);refine gm (some 53) Try.func27 #[.slice Ao17 t609.length co17,.slice Ao18 t610.length co18,.int .i64 (t611.length:Int)] ?_;(with_reducible refine (impl_IsSolvable.calls k _ _ t609 _ _ t610 (t611.length:Int) t626 _ ?side1 ?side2 ?side3 ?side4 A21.out).mono ?_);(case side1=>exact zc (Kd.S_reads' HO613.out).2.2);(case side2=>exact (Kd.S_reads' HO613.out).2.1);(case side3=>exact zc (Kd.Q_reads' HO615.out).2.2);(case side4=>exact (Kd.Q_reads' HO615.out).2.1);rintro e w23 ⟨rfl,hb⟩;refine ⟨_,rfl,?_⟩;replace HO613:=aM (Kd.S_below (Z8 HO613.out) hb);replace HO615:=aM (Kd.Q_below (Z12 HO615.out) hb);replace HO617:=aM (Kd.R_below (zr HO617.out) hb);replace HO621:=aM (Kd.R_below (zr HO621.out) hb);replace HO625:=aM (Kd.R_below (zr HO625.out) hb);replace HB:=aM (below_step (zb HB.out) hb);(try clear hb);(try clear hi)));go_meet;(case rel=>exact ⟨_,(true),zt,H',⟨Z40⟩,⟨Z8 HO613.out⟩,⟨Z12 HO615.out⟩,⟨zr HO617.out⟩,⟨Z25 HO621.out⟩,⟨zb HB.out⟩⟩)
    ·rw [if_neg c22] at H;have c22b0:(t619 != t626)=false:=(by simpa using c22);(try (have c22b1:decide (t619=t626)=true:=by simpa using c22));(try (have c22b2:(t619 == t626)=true:=by simpa using c22));clear c22;(first|rw [c22b0]|(simp only [i64_w,i32_w];rw [c22b0])|skip);by_cases c24:t619=true
     ·subst c24;replace H:=ifT H;obtain ⟨t627,A25,H⟩:=bz H;have H':=aM H;clear H;go_wp2_with (first|((with_reducible refine gate_callee (f:=27) rfl ?_);refine gm (some 53) Try.func27 #[.slice Ao17 t609.length co17,.slice Ao18 t610.length co18,.int .i64 (t611.length:Int)] ?_;(with_reducible refine (impl_IsSolvable.calls k _ _ t609 _ _ t610 (t611.length:Int) t626 _ ?side1 ?side2 ?side3 ?side4 A21.out).mono ?_);(case side1=>exact zc (Kd.S_reads' HO613.out).2.2);(case side2=>exact (Kd.S_reads' HO613.out).2.1);(case side3=>exact zc (Kd.Q_reads' HO615.out).2.2);(case side4=>exact (Kd.Q_reads' HO615.out).2.1);rintro e w26 ⟨rfl,hb⟩;refine ⟨_,rfl,?_⟩;replace HO613:=aM (Kd.S_below (Z8 HO613.out) hb);replace HO615:=aM (Kd.Q_below (Z12 HO615.out) hb);replace HO617:=aM (Kd.R_below (zr HO617.out) hb);replace HO621:=aM (Kd.R_below (zr HO621.out) hb);replace HO625:=aM (Kd.R_below (zr HO625.out) hb);replace HB:=aM (below_step (zb HB.out) hb);(try clear hb);(try clear hk);obtain ⟨Ao27,co27,eo27⟩:=Kd.R_slice HO621.out;subst eo27)|(go_at_call 28;(with_reducible refine (impl_FitsSystem.calls k _ _ t609 _ _ t610 _ _ t618 t627 _ ?side1 ?side2 ?side3 ?side4 ?side5 ?side6 A25.out).mono ?_);(case side1=>exact zc (Kd.S_reads' HO613.out).2.2);(case side2=>exact (Kd.S_reads' HO613.out).2.1);(case side3=>exact zc (Kd.Q_reads' HO615.out).2.2);(case side4=>exact (Kd.Q_reads' HO615.out).2.1);(case side5=>exact zc (Kd.R_reads' HO621.out).2.2);(case side6=>exact (Kd.R_reads' HO621.out).2.1);rintro e w28 ⟨rfl,hb⟩;replace HO613:=aM (Kd.S_below (Z8 HO613.out) hb);replace HO615:=aM (Kd.Q_below (Z12 HO615.out) hb);replace HO617:=aM (Kd.R_below (zr HO617.out) hb);replace HO621:=aM (Kd.R_below (zr HO621.out) hb);replace HO625:=aM (Kd.R_below (zr HO625.out) hb);replace HB:=aM (below_step (zb HB.out) hb);(try clear hb);(try clear hk);(try clear hi)));go_meet;(case rel=>exact ⟨_,(!t627),zt,H',⟨Z40⟩,⟨Z8 HO613.out⟩,⟨Z12 HO615.out⟩,⟨zr HO617.out⟩,⟨Z25 HO621.out⟩,⟨zb HB.out⟩⟩)
     ·replace c24:=Bool.eq_false_iff.mpr c24;subst c24;replace H:=ifF H;have H':=aM H;clear H;go_wp2_with (first|((with_reducible refine gate_callee (f:=27) rfl ?_);refine gm (some 53) Try.func27 #[.slice Ao17 t609.length co17,.slice Ao18 t610.length co18,.int .i64 (t611.length:Int)] ?_;(with_reducible refine (impl_IsSolvable.calls k _ _ t609 _ _ t610 (t611.length:Int) t626 _ ?side1 ?side2 ?side3 ?side4 A21.out).mono ?_);(case side1=>exact zc (Kd.S_reads' HO613.out).2.2);(case side2=>exact (Kd.S_reads' HO613.out).2.1);(case side3=>exact zc (Kd.Q_reads' HO615.out).2.2);(case side4=>exact (Kd.Q_reads' HO615.out).2.1);rintro e w29 ⟨rfl,hb⟩;refine ⟨_,rfl,?_⟩;replace HO613:=aM (Kd.S_below (Z8 HO613.out) hb);replace HO615:=aM (Kd.Q_below (Z12 HO615.out) hb);replace HO617:=aM (Kd.R_below (zr HO617.out) hb);replace HO621:=aM (Kd.R_below (zr HO621.out) hb);replace HO625:=aM (Kd.R_below (zr HO625.out) hb);replace HB:=aM (below_step (zb HB.out) hb);(try clear hb);(try clear hk);(try clear hi)));go_meet;(case rel=>exact ⟨_,(false),zt,H',⟨Z40⟩,⟨Z8 HO613.out⟩,⟨Z12 HO615.out⟩,⟨zr HO617.out⟩,⟨Z25 HO621.out⟩,⟨zb HB.out⟩⟩)
   case rest=>
    clear HC14;(try clear c3);(try clear c7);(try clear c7b0);(try clear c7b1);(try clear c7b2);(try clear c22);(try clear c22b0);(try clear c22b1);(try clear c22b2);(try clear c24);obtain ⟨kq,x64_13,rfl,HA,HJ13,HO_3,HO_4,HO_5,HO_6,HB⟩:=hcut;cases kq with
    | zero=>exact absurd HA.out (by simp [laws_FnSolved.j0])
    | succ kj13=>
     have H:=HA.out;clear HA;simp only [laws_FnSolved.j0] at H;by_cases c30:x64_13=true
     ·subst c30;replace H:=ifT H;exact absurd ((Option.some.inj H).trans htrue) (Z19)
     ·replace c30:=Bool.eq_false_iff.mpr c30;subst c30;replace H:=ifF H;obtain ⟨⟨t628,t629,t630⟩,A31,H⟩:=bz H;dsimp only at H;obtain ⟨⟨t632,t633,t634⟩,A32,H⟩:=bz H;dsimp only at H;have HC33:=aM H;clear H;go_upto_region 12 with (first|((with_reducible refine gate_callee (f:=19) rfl ?_);refine gm (some 69) Try.func19 #[.slice Ao17 t609.length co17,.slice Ao18 t610.length co18,.slice Ao16 t611.length co16] ?_;(with_reducible refine (impl_ValueOf.calls kj13 _ _ t609 _ _ t610 _ _ t611 t628 t629 t630 _ ?side1 ?side2 ?side3 ?side4 ?side5 ?side6 A31.out).mono ?_);(case side1=>exact zc (Kd.S_reads' HO_3.out).2.2);(case side2=>exact (Kd.S_reads' HO_3.out).2.1);(case side3=>exact zc (Kd.Q_reads' HO_4.out).2.2);(case side4=>exact (Kd.Q_reads' HO_4.out).2.1);(case side5=>exact zc (Kd.R_reads' HO_5.out).2.2);(case side6=>exact (Kd.R_reads' HO_5.out).2.1);rintro e w34 ⟨rfl,hb⟩;refine ⟨_,rfl,?_⟩;replace HO_3:=aM (Kd.S_below (Z8 HO_3.out) hb);replace HO_4:=aM (Kd.Q_below (Z12 HO_4.out) hb);replace HO_5:=aM (Kd.R_below (zr HO_5.out) hb);replace HO_6:=aM (Kd.R_below (zr HO_6.out) hb);replace HB:=aM (below_step (zb HB.out) hb);(try clear hb);(try clear hk);(try clear hi))|((with_reducible refine gate_dst (N:=10) rfl ?_);refine box_event ?hg (N:=10) ?hd (cs:=#[.int .i64 0,.int .i64 0]) (t:=26) ?hr ?_;(case hd=>rfl);(case hg=>rfl);(case hr=>exact (Z9));intro gb631 hg w35 hbox hb;replace HO_3:=aM (Kd.S_below (Z8 HO_3.out) hb);replace HO_4:=aM (Kd.Q_below (Z12 HO_4.out) hb);replace HO_5:=aM (Kd.R_below (zr HO_5.out) hb);replace HO_6:=aM (Kd.R_below (Kd.R_elderB (zr HO_6.out) gb631 (Nat.le_of_eq hg.symm)) hb);have BK631:=aM (hbox);have GW631:=aM ((zg hg (zb HB.out)));have GE631:=aM ((zg hg (zb HB.out)));replace HB:=aM (below_step (zb HB.out) hb);clear hb hbox hg;have hcz36_0:w35.cell? ⟨gb631,0,none⟩=some (.int .i64 0):=(blk_cell BK631.out 0).trans rfl;have hcz36_1:w35.cell? ⟨gb631,1,none⟩=some (.int .i64 0):=(blk_cell BK631.out 1).trans rfl;have hfz36_0:=blk_frozen BK631.out 0;have hfz36_1:=blk_frozen BK631.out 1)|((with_reducible refine gate_callee (f:=29) rfl ?_);refine gm (some 76) Try.func29 #[.slice Ao17 t609.length co17,.slice Ao18 t610.length co18,.slice Ao16 t611.length co16] ?_;(with_reducible refine (impl_TwoSolutions.calls kj13 _ _ t609 _ _ t610 _ _ t611 t632 t633 t634 _ ?side1 ?side2 ?side3 ?side4 ?side5 ?side6 A32.out).mono ?_);(case side1=>refine (Kd.S_reads' (e:=23) (base:=w.heap.size) (ok:=fun k_=>(some k_≠(.slice Ao18 t610.length co18:Value).ownBlock∧some k_≠(.slice Ao16 t611.length co16:Value).ownBlock)) (n:=t609.length) (c:=co17) ?_).2.2;exact (Z69 HO_3.out BK631.out));(case side2=>exact (Kd.S_reads' HO_3.out).2.1);(case side3=>refine (Kd.Q_reads' (e:=3) (base:=w.heap.size) (ok:=fun k_=>some k_≠(.slice Ao16 t611.length co16:Value).ownBlock) (n:=t610.length) (c:=co18) ?_).2.2;exact (Z73 HO_4.out BK631.out));(case side4=>exact (Kd.Q_reads' HO_4.out).2.1);(case side5=>refine (Kd.R_reads' (e:=3) (base:=w.heap.size) (ok:=fun k_=>some k_≠(.slice Ao18 t610.length co18:Value).ownBlock) (n:=t611.length) (c:=co16) ?_).2.2;exact (Z71 HO_5.out BK631.out));(case side6=>exact (Kd.R_reads' HO_5.out).2.1);rintro e w37 ⟨v635,v637,rfl,ho0,ho1,hb⟩;refine ⟨_,rfl,?_⟩;replace HO_3:=aM (Kd.S_below (Z69 HO_3.out BK631.out) hb);replace HO_4:=aM (Kd.Q_below (Z73 HO_4.out BK631.out) hb);replace HO_5:=aM (Kd.R_below (Z71 HO_5.out BK631.out) hb);have HO636:=aM (Kd.R_lower (Kd.R_newB (Kd.R_new' ho0 (Kd.R_lt (Z43 HO_6.out))) (g:=gb631) (o:=.cells #[.int .i64 t628,.int .i64 t629] 26 (0,0)) (Z32 BK631.out)) (below_size (zs HB.out)));have HO638:=aM (Kd.R_lower (Kd.R_newB (Kd.R_new' ho1 (Kd.R_lt (Z43 HO_6.out))) (g:=gb631) (o:=.cells #[.int .i64 t628,.int .i64 t629] 26 (0,0)) (Z32 BK631.out)) (below_size (zs HB.out)));replace HO_6:=aM (Kd.R_mono (Kd.R_told (Kd.R_told (Kd.R_old (Z43 HO_6.out) hb) (Kd.R_base ho0)) (Kd.R_base ho1)) (fun _ h_=>h_.1));replace BK631:=aM (blk_below (g:=gb631) (o:=.cells #[.int .i64 t628,.int .i64 t629] 26 (0,0)) (Z32 BK631.out) hb);replace HB:=aM (below_step (zs HB.out) hb);(try clear hb);(try clear hk);(try clear ho0);(try clear ho1)))
      (try simp only [Act.put,aQ,zQ,sQ]);go_cut [92] (fun v92 wc=>∃(kq:Nat) (x92_32:Bool),v92 = .bool x92_32∧Aside0 (laws_FnSolved.j1 kq t609 t610 t611 t618 t630 t632 t633 t634 x92_32 t628 t629=some r)∧Aside0 (kq≤kj13)∧Aside0 (Kd.S (Kd.slice 3 (Kd.int .i64)) 23 wc w.heap.size (fun k_=>some k_≠((.slice Ao18 t610.length co18):Value).ownBlock∧some k_≠((.slice Ao16 t611.length co16):Value).ownBlock) (.slice Ao17 t609.length co17) t609)∧Aside0 (Kd.Q (Kd.int .i64) 3 wc w.heap.size (fun k_=>some k_≠((.slice Ao16 t611.length co16):Value).ownBlock) (.slice Ao18 t610.length co18) t610)∧Aside0 (Kd.R (Kd.int .i64) 3 wc w.heap.size (fun k_=>some k_≠((.slice Ao18 t610.length co18):Value).ownBlock) (.slice Ao16 t611.length co16) t611)∧Aside0 (Kd.R k26 26 wc w.heap.size (fun k_=>some k_≠(v635:Value).ownBlock∧some k_≠(v637:Value).ownBlock∧k_≠gb631) v620 t618)∧Aside0 (Kd.R k26 26 wc w.heap.size (fun k_=>some k_≠(v620:Value).ownBlock∧some k_≠(v637:Value).ownBlock∧k_≠gb631) v635 t632)∧Aside0 (Kd.R k26 26 wc w.heap.size (fun k_=>some k_≠(v620:Value).ownBlock∧some k_≠(v635:Value).ownBlock∧k_≠gb631) v637 t633)∧Aside0 (wc.heap[gb631]?=some (.cells #[.int .i64 t628,.int .i64 t629] 26 (0,0)))∧Aside0 (Below w.heap.size w wc))
      case first=>
       have H:=HC33.out;clear HC33;by_cases c38:t630=true
       ·subst c38;replace H:=ifT H;by_cases c39:t634=true
        ·subst c39;replace H:=ifT H;have H':=aM H;clear H;go_wp2;go_meet;(case rel=>exact ⟨_,(true),zt,H',⟨Z59 HJ13.out⟩,⟨Z8 HO_3.out⟩,⟨Z12 HO_4.out⟩,⟨zr HO_5.out⟩,⟨Z63 HO_6.out⟩,⟨Z36 HO636.out⟩,⟨Z36 HO638.out⟩,⟨zk BK631.out⟩,⟨zs HB.out⟩⟩)
        ·replace c39:=Bool.eq_false_iff.mpr c39;subst c39;replace H:=ifF H;obtain ⟨t639,A40,H⟩:=bz H;have H':=aM H;clear H;go_wp2_with (first|(go_at_call 30;(with_reducible refine (impl_IsInSpan.calls kj13 _ _ t609 _ _ t611 t639 _ ?side1 ?side2 ?side3 ?side4 A40.out).mono ?_);(case side1=>exact zc (Kd.S_reads' HO_3.out).2.2);(case side2=>exact (Kd.S_reads' HO_3.out).2.1);(case side3=>exact zc (Kd.R_reads' HO_5.out).2.2);(case side4=>exact (Kd.R_reads' HO_5.out).2.1);rintro e w41 ⟨rfl,hb⟩;replace HO_3:=aM (Kd.S_below (Z8 HO_3.out) hb);replace HO_4:=aM (Kd.Q_below (Z12 HO_4.out) hb);replace HO_5:=aM (Kd.R_below (zr HO_5.out) hb);replace HO_6:=aM (Kd.R_below (zr HO_6.out) hb);replace HO636:=aM (Kd.R_below (zr HO636.out) hb);replace HO638:=aM (Kd.R_below (zr HO638.out) hb);replace BK631:=aM (blk_below (g:=gb631) (o:=.cells #[.int .i64 t628,.int .i64 t629] 26 (0,0)) (zk BK631.out) hb);replace HB:=aM (below_step (zs HB.out) hb);(try clear hb);(try clear hk);(try clear hi)));go_meet;(case rel=>exact ⟨_,(!t639),zt,H',⟨Z59 HJ13.out⟩,⟨Z8 HO_3.out⟩,⟨Z12 HO_4.out⟩,⟨zr HO_5.out⟩,⟨Z63 HO_6.out⟩,⟨Z36 HO636.out⟩,⟨Z36 HO638.out⟩,⟨zk BK631.out⟩,⟨zs HB.out⟩⟩)
       ·replace c38:=Bool.eq_false_iff.mpr c38;subst c38;replace H:=ifF H;have H':=aM H;clear H;go_wp2;go_meet;(case rel=>exact ⟨_,(false),zt,H',⟨Z59 HJ13.out⟩,⟨Z8 HO_3.out⟩,⟨Z12 HO_4.out⟩,⟨zr HO_5.out⟩,⟨Z63 HO_6.out⟩,⟨Z36 HO636.out⟩,⟨Z36 HO638.out⟩,⟨zk BK631.out⟩,⟨zs HB.out⟩⟩)
      case rest=>
       clear HC33;(try clear c3);(try clear c7);(try clear c7b0);(try clear c7b1);(try clear c7b2);(try clear c22);(try clear c22b0);(try clear c22b1);(try clear c22b2);(try clear c24);(try clear c30);(try clear c38);(try clear c39);(try clear hcz36_0);(try clear hcz36_1);(try clear hfz36_0);(try clear hfz36_1);obtain ⟨kq,x92_32,rfl,HA,HJ32,HO_3,HO_4,HO_5,HO_6,HO_12,HO_13,BK631,HB⟩:=hcut;cases kq with
       | zero=>exact absurd HA.out (by simp [laws_FnSolved.j1])
       | succ kj32=>
        have H:=HA.out;clear HA;simp only [laws_FnSolved.j1] at H;by_cases c42:x92_32=true
        ·subst c42;replace H:=ifT H;exact absurd ((Option.some.inj H).trans htrue) (Z19)
        ·replace c42:=Bool.eq_false_iff.mpr c42;subst c42;replace H:=ifF H;by_cases c43:t630=true
         ·subst c43;replace H:=ifT H;obtain ⟨⟨t640,t641,t642⟩,A44,H⟩:=bz H;dsimp only at H;by_cases c45:t642=true
          ·subst c45;replace H:=ifT H;clear htrue;obtain rfl:=Option.some.inj H;obtain ⟨Ao46,co46,eo46⟩:=Kd.R_slice HO_6.out;subst eo46;go_wp2_with (first|((with_reducible refine gate_callee (f:=31) rfl ?_);refine gm (some 97) Try.func31 #[.slice Ao16 t611.length co16,.slice Ao46 t618.length co46] ?_;(with_reducible refine (laws_rowSum.calls kj32 _ _ t611 _ _ t618 t640 t641 true _ ?side1 ?side2 ?side3 ?side4 A44.out).mono ?_);(case side1=>exact zc (Kd.R_reads' HO_5.out).2.2);(case side2=>exact (Kd.R_reads' HO_5.out).2.1);(case side3=>exact zc (Kd.R_reads' HO_6.out).2.2);(case side4=>exact (Kd.R_reads' HO_6.out).2.1);rintro e w47 ⟨rfl,hb⟩;refine ⟨_,rfl,?_⟩;replace HO_3:=aM (Kd.S_below (Z8 HO_3.out) hb);replace HO_4:=aM (Kd.Q_below (Z12 HO_4.out) hb);replace HO_5:=aM (Kd.R_below (zr HO_5.out) hb);replace HO_6:=aM (Kd.R_below (zr HO_6.out) hb);replace HO_12:=aM (Kd.R_below (zr HO_12.out) hb);replace HO_13:=aM (Kd.R_below (zr HO_13.out) hb);replace BK631:=aM (blk_below (g:=gb631) (o:=.cells #[.int .i64 t628,.int .i64 t629] 26 (0,0)) (zk BK631.out) hb);replace HB:=aM (below_step (zs HB.out) hb);(try clear hb);(try clear hk);(try clear hi))|((with_reducible refine gate_dst (N:=15) rfl ?_);refine box_event ?hg (N:=15) ?hd (cs:=#[.int .i64 0,.int .i64 0]) (t:=26) ?hr ?_;(case hd=>rfl);(case hg=>rfl);(case hr=>exact (Z9));intro gb643 hg w48 hbox hb;replace HO_3:=aM (Kd.S_below (Z8 HO_3.out) hb);replace HO_4:=aM (Kd.Q_below (Z12 HO_4.out) hb);replace HO_5:=aM (Kd.R_below (zr HO_5.out) hb);replace HO_6:=aM (Kd.R_below (Kd.R_elderB (zr HO_6.out) gb643 (Nat.le_of_eq hg.symm)) hb);replace HO_12:=aM (Kd.R_below (Kd.R_elderB (zr HO_12.out) gb643 (Nat.le_of_eq hg.symm)) hb);replace HO_13:=aM (Kd.R_below (Kd.R_elderB (zr HO_13.out) gb643 (Nat.le_of_eq hg.symm)) hb);have BK643:=aM (hbox);have GW643:=aM ((zg hg (zs HB.out)));have GE643:=aM ((zg hg (zs HB.out)));replace HB:=aM (below_step (zs HB.out) hb);have NB631_643:=aM ((zl hg (zk BK631.out)));have NB643_631:=aM ((zm hg (zk BK631.out)));replace BK631:=aM (blk_below (g:=gb631) (o:=.cells #[.int .i64 t628,.int .i64 t629] 26 (0,0)) (zk BK631.out) hb);clear hb hbox hg;have hnb49:=NB643_631.out;have hnc49:=NB631_643.out;have hcz50_0:w48.cell? ⟨gb643,0,none⟩=some (.int .i64 0):=(blk_cell BK643.out 0).trans rfl;have hcz50_1:w48.cell? ⟨gb643,1,none⟩=some (.int .i64 0):=(blk_cell BK643.out 1).trans rfl;have hfz50_0:=blk_frozen BK643.out 0;have hfz50_1:=blk_frozen BK643.out 1;have hcz51_0:w48.cell? ⟨gb631,0,none⟩=some (.int .i64 t628):=(blk_cell BK631.out 0).trans rfl;have hcz51_1:w48.cell? ⟨gb631,1,none⟩=some (.int .i64 t629):=(blk_cell BK631.out 1).trans rfl;have hfz51_0:=blk_frozen BK631.out 0;have hfz51_1:=blk_frozen BK631.out 1));go_ret;exact ⟨Z7,zs HB.out⟩
          ·replace c45:=Bool.eq_false_iff.mpr c45;subst c45;replace H:=ifF H;exact absurd ((Option.some.inj H).trans htrue) (Z19)
         ·replace c43:=Bool.eq_false_iff.mpr c43;subst c43;replace H:=ifF H;by_cases c57:t634=true
          ·subst c57;replace H:=ifT H;obtain ⟨⟨t644,t645,t646⟩,A58,H⟩:=bz H;dsimp only at H;obtain ⟨⟨t648,t649,t650⟩,A59,H⟩:=bz H;dsimp only at H;obtain ⟨t652,A60,H⟩:=bz H;by_cases c61:t652=true
           ·subst c61;replace H:=ifT H;obtain ⟨t653,A62,H⟩:=bz H;by_cases c63:t653=true
            ·subst c63;replace H:=ifT H;by_cases c64:t646=true
             ·subst c64;replace H:=ifT H;by_cases c65:t650=true
              ·subst c65;replace H:=ifT H;clear htrue;obtain rfl:=Option.some.inj H;obtain ⟨Ao66,co66,eo66⟩:=Kd.R_slice HO_12.out;subst eo66;go_wp2_with (first|((with_reducible refine gate_callee (f:=31) rfl ?_);refine gm (some 111) Try.func31 #[.slice Ao16 t611.length co16,.slice Ao66 t632.length co66] ?_;(with_reducible refine (laws_rowSum.calls kj32 _ _ t611 _ _ t632 t644 t645 true _ ?side1 ?side2 ?side3 ?side4 A58.out).mono ?_);(case side1=>exact zc (Kd.R_reads' HO_5.out).2.2);(case side2=>exact (Kd.R_reads' HO_5.out).2.1);(case side3=>exact zc (Kd.R_reads' HO_12.out).2.2);(case side4=>exact (Kd.R_reads' HO_12.out).2.1);rintro e w67 ⟨rfl,hb⟩;refine ⟨_,rfl,?_⟩;replace HO_3:=aM (Kd.S_below (Z8 HO_3.out) hb);replace HO_4:=aM (Kd.Q_below (Z12 HO_4.out) hb);replace HO_5:=aM (Kd.R_below (zr HO_5.out) hb);replace HO_6:=aM (Kd.R_below (zr HO_6.out) hb);replace HO_12:=aM (Kd.R_below (zr HO_12.out) hb);replace HO_13:=aM (Kd.R_below (zr HO_13.out) hb);replace BK631:=aM (blk_below (g:=gb631) (o:=.cells #[.int .i64 t628,.int .i64 t629] 26 (0,0)) (zk BK631.out) hb);replace HB:=aM (below_step (zs HB.out) hb);(try clear hb);(try clear hk);(try clear hi))|((with_reducible refine gate_dst (N:=17) rfl ?_);refine box_event ?hg (N:=17) ?hd (cs:=#[.int .i64 0,.int .i64 0]) (t:=26) ?hr ?_;(case hd=>rfl);(case hg=>rfl);(case hr=>exact (Z9));intro gb647 hg w68 hbox hb;replace HO_3:=aM (Kd.S_below (Z8 HO_3.out) hb);replace HO_4:=aM (Kd.Q_below (Z12 HO_4.out) hb);replace HO_5:=aM (Kd.R_below (zr HO_5.out) hb);replace HO_6:=aM (Kd.R_below (Kd.R_elderB (zr HO_6.out) gb647 (Nat.le_of_eq hg.symm)) hb);replace HO_12:=aM (Kd.R_below (Kd.R_elderB (zr HO_12.out) gb647 (Nat.le_of_eq hg.symm)) hb);replace HO_13:=aM (Kd.R_below (Kd.R_elderB (zr HO_13.out) gb647 (Nat.le_of_eq hg.symm)) hb);have BK647:=aM (hbox);have GW647:=aM ((zg hg (zs HB.out)));have GE647:=aM ((zg hg (zs HB.out)));replace HB:=aM (below_step (zs HB.out) hb);have NB631_647:=aM ((zl hg (zk BK631.out)));have NB647_631:=aM ((zm hg (zk BK631.out)));replace BK631:=aM (blk_below (g:=gb631) (o:=.cells #[.int .i64 t628,.int .i64 t629] 26 (0,0)) (zk BK631.out) hb);clear hb hbox hg;have hnb69:=NB647_631.out;have hnc69:=NB631_647.out;have hcz70_0:w68.cell? ⟨gb647,0,none⟩=some (.int .i64 0):=(blk_cell BK647.out 0).trans rfl;have hcz70_1:w68.cell? ⟨gb647,1,none⟩=some (.int .i64 0):=(blk_cell BK647.out 1).trans rfl;have hfz70_0:=blk_frozen BK647.out 0;have hfz70_1:=blk_frozen BK647.out 1;obtain ⟨Ao71,co71,eo71⟩:=Kd.R_slice HO_13.out;subst eo71)|((with_reducible refine gate_callee (f:=31) rfl ?_);refine gm (some 117) Try.func31 #[.slice Ao16 t611.length co16,.slice Ao71 t633.length co71] ?_;(with_reducible refine (laws_rowSum.calls kj32 _ _ t611 _ _ t633 t648 t649 true _ ?side1 ?side2 ?side3 ?side4 A59.out).mono ?_);(case side1=>refine (Kd.R_reads' (e:=3) (base:=w.heap.size) (ok:=fun k_=>some k_≠(.slice Ao18 t610.length co18:Value).ownBlock) (n:=t611.length) (c:=co16) ?_).2.2;exact (Z70 HO_5.out BK647.out));(case side2=>exact (Kd.R_reads' HO_5.out).2.1);(case side3=>refine (Kd.R_reads' (e:=26) (base:=w.heap.size) (ok:=fun k_=>((some k_≠(v620:Value).ownBlock∧(some k_≠(.slice Ao66 t632.length co66:Value).ownBlock∧k_≠gb631))∧k_≠gb647)) (n:=t633.length) (c:=co71) ?_).2.2;exact (Z27 HO_13.out));(case side4=>exact (Kd.R_reads' HO_13.out).2.1);rintro e w72 ⟨rfl,hb⟩;refine ⟨_,rfl,?_⟩;replace HO_3:=aM (Kd.S_below (by (with_reducible repeat (first|apply Kd.S_alloc|apply Kd.S_drewN|apply Kd.S_drew));exact (Kd.S_mono (Kd.S_far (p:=⟨gb647,1,none⟩) (Kd.S_far (p:=⟨gb647,0,none⟩) (Kd.S_types HO_3.out BK647.out (Z19)) (fun _ hk=>hk.2) (.int .i64 t644)) (fun _ hk=>hk.2) (.int .i64 t645)) (fun _ h_=>h_.1))) hb);replace HO_4:=aM (Kd.Q_below (by (with_reducible repeat (first|apply Kd.Q_alloc|apply Kd.Q_drewN|apply Kd.Q_drew));exact (Kd.Q_mono (Kd.Q_far (p:=⟨gb647,1,none⟩) (Kd.Q_far (p:=⟨gb647,0,none⟩) (Kd.Q_types HO_4.out BK647.out (Z19)) (fun _ hk=>hk.2) (.int .i64 t644)) (fun _ hk=>hk.2) (.int .i64 t645)) (fun _ h_=>h_.1))) hb);replace HO_5:=aM (Kd.R_below (Z70 HO_5.out BK647.out) hb);replace HO_6:=aM (Kd.R_below (Z27 HO_6.out) hb);replace HO_12:=aM (Kd.R_below (Z27 HO_12.out) hb);replace HO_13:=aM (Kd.R_below (Z27 HO_13.out) hb);replace BK631:=aM (blk_below (g:=gb631) (o:=.cells #[.int .i64 t628,.int .i64 t629] 26 (0,0)) (Z6 NB631_647.out BK631.out) hb);replace BK647:=aM (blk_below (g:=gb647) (o:=.cells #[.int .i64 t644,.int .i64 t645] 26 (0,0)) (by (with_reducible repeat (first|refine blk_drewN ?_ _|refine blk_drew ?_|refine blk_alloc ?_ _));refine blk_put (cs:=#[.int .i64 t644,.int .i64 0]) ?_ 1 _ rfl;(with_reducible repeat (first|refine blk_drewN ?_ _|refine blk_drew ?_|refine blk_alloc ?_ _));refine blk_put (cs:=#[.int .i64 0,.int .i64 0]) ?_ 0 _ rfl;(with_reducible repeat (first|refine blk_drewN ?_ _|refine blk_drew ?_|refine blk_alloc ?_ _));exact BK647.out) hb);replace HB:=aM (below_step (zs HB.out) hb);(try clear hb);(try clear hk);(try clear hi))|((with_reducible refine gate_dst (N:=19) rfl ?_);refine box_event ?hg (N:=19) ?hd (cs:=#[.int .i64 0,.int .i64 0]) (t:=26) ?hr ?_;(case hd=>rfl);(case hg=>rfl);(case hr=>exact (Z9));intro gb651 hg w73 hbox hb;replace HO_3:=aM (Kd.S_below (Z8 HO_3.out) hb);replace HO_4:=aM (Kd.Q_below (Z12 HO_4.out) hb);replace HO_5:=aM (Kd.R_below (zr HO_5.out) hb);replace HO_6:=aM (Kd.R_below (Kd.R_elderB (zr HO_6.out) gb651 (Nat.le_of_eq hg.symm)) hb);replace HO_12:=aM (Kd.R_below (Kd.R_elderB (zr HO_12.out) gb651 (Nat.le_of_eq hg.symm)) hb);replace HO_13:=aM (Kd.R_below (Kd.R_elderB (zr HO_13.out) gb651 (Nat.le_of_eq hg.symm)) hb);have BK651:=aM (hbox);have GW651:=aM ((zg hg (zs HB.out)));have GE651:=aM ((zg hg (zs HB.out)));replace HB:=aM (below_step (zs HB.out) hb);have NB631_651:=aM ((zl hg (zk BK631.out)));have NB651_631:=aM ((zm hg (zk BK631.out)));replace BK631:=aM (blk_below (g:=gb631) (o:=.cells #[.int .i64 t628,.int .i64 t629] 26 (0,0)) (zk BK631.out) hb);have NB647_651:=aM ((zl hg (zk BK647.out)));have NB651_647:=aM ((zm hg (zk BK647.out)));replace BK647:=aM (blk_below (g:=gb647) (o:=.cells #[.int .i64 t644,.int .i64 t645] 26 (0,0)) (zk BK647.out) hb);clear hb hbox hg;have hnb74:=NB651_631.out;have hnc74:=NB631_651.out;have hnb75:=NB651_647.out;have hnc75:=NB647_651.out;have hcz76_0:w73.cell? ⟨gb651,0,none⟩=some (.int .i64 0):=(blk_cell BK651.out 0).trans rfl;have hcz76_1:w73.cell? ⟨gb651,1,none⟩=some (.int .i64 0):=(blk_cell BK651.out 1).trans rfl;have hfz76_0:=blk_frozen BK651.out 0;have hfz76_1:=blk_frozen BK651.out 1)|((with_reducible refine gate_callee (f:=28) rfl ?_);refine gm (some 123) Try.func28 #[.slice Ao17 t609.length co17,.slice Ao18 t610.length co18,.slice Ao66 t632.length co66] ?_;(with_reducible refine (impl_FitsSystem.calls kj32 _ _ t609 _ _ t610 _ _ t632 true _ ?side1 ?side2 ?side3 ?side4 ?side5 ?side6 A60.out).mono ?_);(case side1=>refine (Kd.S_reads' (e:=23) (base:=w.heap.size) (ok:=fun k_=>(some k_≠(.slice Ao18 t610.length co18:Value).ownBlock∧some k_≠(.slice Ao16 t611.length co16:Value).ownBlock)) (n:=t609.length) (c:=co17) ?_).2.2;exact (Z68 HO_3.out BK651.out));(case side2=>exact (Kd.S_reads' HO_3.out).2.1);(case side3=>refine (Kd.Q_reads' (e:=3) (base:=w.heap.size) (ok:=fun k_=>some k_≠(.slice Ao16 t611.length co16:Value).ownBlock) (n:=t610.length) (c:=co18) ?_).2.2;exact (Z72 HO_4.out BK651.out));(case side4=>exact (Kd.Q_reads' HO_4.out).2.1);(case side5=>refine (Kd.R_reads' (e:=26) (base:=w.heap.size) (ok:=fun k_=>(((some k_≠(v620:Value).ownBlock∧(some k_≠(.slice Ao71 t633.length co71:Value).ownBlock∧k_≠gb631))∧k_≠gb647)∧k_≠gb651)) (n:=t632.length) (c:=co66) ?_).2.2;exact (Z26 HO_12.out));(case side6=>exact (Kd.R_reads' HO_12.out).2.1);rintro e w77 ⟨rfl,hb⟩;refine ⟨_,rfl,?_⟩;replace HO_3:=aM (Kd.S_below (Z68 HO_3.out BK651.out) hb);replace HO_4:=aM (Kd.Q_below (Z72 HO_4.out BK651.out) hb);replace HO_5:=aM (Kd.R_below (by (with_reducible repeat (first|apply Kd.R_alloc|apply Kd.R_drewN|apply Kd.R_drew));exact (Kd.R_mono (Kd.R_far (p:=⟨gb651,1,none⟩) (Kd.R_far (p:=⟨gb651,0,none⟩) (Kd.R_types HO_5.out BK651.out (Z19)) (fun _ hk=>hk.2) (.int .i64 t648)) (fun _ hk=>hk.2) (.int .i64 t649)) (fun _ h_=>h_.1))) hb);replace HO_6:=aM (Kd.R_below (Z26 HO_6.out) hb);replace HO_12:=aM (Kd.R_below (Z26 HO_12.out) hb);replace HO_13:=aM (Kd.R_below (Z26 HO_13.out) hb);replace BK631:=aM (blk_below (g:=gb631) (o:=.cells #[.int .i64 t628,.int .i64 t629] 26 (0,0)) (Z6 NB631_651.out BK631.out) hb);replace BK647:=aM (blk_below (g:=gb647) (o:=.cells #[.int .i64 t644,.int .i64 t645] 26 (0,0)) (Z6 NB647_651.out BK647.out) hb);replace BK651:=aM (blk_below (g:=gb651) (o:=.cells #[.int .i64 t648,.int .i64 t649] 26 (0,0)) (by (with_reducible repeat (first|refine blk_drewN ?_ _|refine blk_drew ?_|refine blk_alloc ?_ _));refine blk_put (cs:=#[.int .i64 t648,.int .i64 0]) ?_ 1 _ rfl;(with_reducible repeat (first|refine blk_drewN ?_ _|refine blk_drew ?_|refine blk_alloc ?_ _));refine blk_put (cs:=#[.int .i64 0,.int .i64 0]) ?_ 0 _ rfl;(with_reducible repeat (first|refine blk_drewN ?_ _|refine blk_drew ?_|refine blk_alloc ?_ _));exact BK651.out) hb);replace HB:=aM (below_step (zs HB.out) hb);(try clear hb);(try clear hk);(try clear hi))|(go_at_call 28;(with_reducible refine (impl_FitsSystem.calls kj32 _ _ t609 _ _ t610 _ _ t633 true _ ?side1 ?side2 ?side3 ?side4 ?side5 ?side6 A62.out).mono ?_);(case side1=>exact zc (Kd.S_reads' HO_3.out).2.2);(case side2=>exact (Kd.S_reads' HO_3.out).2.1);(case side3=>exact zc (Kd.Q_reads' HO_4.out).2.2);(case side4=>exact (Kd.Q_reads' HO_4.out).2.1);(case side5=>exact zc (Kd.R_reads' HO_13.out).2.2);(case side6=>exact (Kd.R_reads' HO_13.out).2.1);rintro e w78 ⟨rfl,hb⟩;replace HO_3:=aM (Kd.S_below (Z8 HO_3.out) hb);replace HO_4:=aM (Kd.Q_below (Z12 HO_4.out) hb);replace HO_5:=aM (Kd.R_below (zr HO_5.out) hb);replace HO_6:=aM (Kd.R_below (zr HO_6.out) hb);replace HO_12:=aM (Kd.R_below (zr HO_12.out) hb);replace HO_13:=aM (Kd.R_below (zr HO_13.out) hb);replace BK631:=aM (blk_below (g:=gb631) (o:=.cells #[.int .i64 t628,.int .i64 t629] 26 (0,0)) (zk BK631.out) hb);replace BK647:=aM (blk_below (g:=gb647) (o:=.cells #[.int .i64 t644,.int .i64 t645] 26 (0,0)) (zk BK647.out) hb);replace BK651:=aM (blk_below (g:=gb651) (o:=.cells #[.int .i64 t648,.int .i64 t649] 26 (0,0)) (zk BK651.out) hb);replace HB:=aM (below_step (zs HB.out) hb);(try clear hb);(try clear hk);have hcz79_0:w78.cell? ⟨gb647,0,none⟩=some (.int .i64 t644):=(blk_cell BK647.out 0).trans rfl;have hcz79_1:w78.cell? ⟨gb647,1,none⟩=some (.int .i64 t645):=(blk_cell BK647.out 1).trans rfl;have hfz79_0:=blk_frozen BK647.out 0;have hfz79_1:=blk_frozen BK647.out 1;have hcz80_0:w78.cell? ⟨gb651,0,none⟩=some (.int .i64 t648):=(blk_cell BK651.out 0).trans rfl;have hcz80_1:w78.cell? ⟨gb651,1,none⟩=some (.int .i64 t649):=(blk_cell BK651.out 1).trans rfl;have hfz80_0:=blk_frozen BK651.out 0;have hfz80_1:=blk_frozen BK651.out 1));go_ret;exact ⟨Z7,zs HB.out⟩
              ·replace c65:=Bool.eq_false_iff.mpr c65;subst c65;replace H:=ifF H;exact absurd ((Option.some.inj H).trans htrue) (Z19)
             ·replace c64:=Bool.eq_false_iff.mpr c64;subst c64;replace H:=ifF H;exact absurd ((Option.some.inj H).trans htrue) (Z19)
            ·replace c63:=Bool.eq_false_iff.mpr c63;subst c63;replace H:=ifF H;exact absurd ((Option.some.inj H).trans htrue) (Z19)
           ·replace c61:=Bool.eq_false_iff.mpr c61;subst c61;replace H:=ifF H;exact absurd ((Option.some.inj H).trans htrue) (Z19)
          ·replace c57:=Bool.eq_false_iff.mpr c57;subst c57;replace H:=ifF H;clear htrue;obtain rfl:=Option.some.inj H;go_wp2;go_ret;exact ⟨Z7,zs HB.out⟩
def laws_FnSolved.Pure:Prop:=∀(l0:List Int),l0.length≤maxLen→l0.length*1≤140737488351232→(∀x∈l0,(Lit.int .u8 x).wf=true)→∃k,laws_FnSolved.f k l0=some true
theorem laws_FnSolved.walk (P:laws_FnSolved.Pure) (a0:Option Addr) (len0 cap0:Nat) (z0:List Int) (w:World) (w0:(a0=none∧len0=0∧cap0=0∧z0=[])∨∃x,a0=some x∧len0≤cap0∧cap0≤maxLen∧z0.length=cap0∧(∀i,i<z0.length→w.cell? (x.add i)=some (.int .u8 (z0.getD i 0)))∧∀n∈z0,(Lit.int .u8 n).wf=true) (y0:len0*1≤140737488351232) :
  Calls Try.prog 4 #[.slice a0 len0 cap0] w fun e w'=>e = .returned (.bool true)∧Below w.heap.size w w':=by
 obtain ⟨l0,rfl,hr0,hm0,hw0,hc0⟩:=ReadsInt.ofRowC w0
 obtain ⟨k,h⟩:=P l0 hm0 y0 hw0
 refine (laws_FnSolved.calls k _ _ l0 true w (Kd.C_of_reads (d:=(0:Int)) (h1:=fun _=>rfl) hr0) hc0 h rfl).mono ?_
 rintro e w' ⟨rfl,hd⟩
 exact ⟨rfl,hd⟩
end Go.Proofs.Ytojkepidkmkmpaa.PFnSolved
end
section
namespace Go.Proofs.YtojkepidkmkmpaaAlg
abbrev V:=Nat→Int
inductive Sp (S : V → Prop) : V → Prop
 | of {v : V} : S v → Sp S v
 | zero : Sp S (fun _ => 0)
 | add {u v : V} : Sp S u → Sp S v → Sp S (fun j => u j + v j)
 | smul {u : V} (c : Int) : Sp S u → Sp S (fun j => c * u j)
 | div {u : V} (c : Int) : c ≠ 0 → Sp S (fun j => c * u j) → Sp S u
theorem Sp.congr {S:V→Prop} {u v:V} (h:Sp S u) (e:∀j,u j=v j):Sp S v:=by
 have:u=v:=funext e
 rwa [← this]
theorem Sp.trans {S T:V→Prop} {v:V} (h:Sp S v) (k:∀v,S v→Sp T v):Sp T v:=by
 induction h with
 | of h=>exact k _ h
 | zero=>exact Sp.zero
 | add _ _ h1 h2=>exact Sp.add h1 h2
 | smul c _ h=>exact Sp.smul c h
 | div c hc _ h=>exact Sp.div c hc h
theorem Sp.mono {S T:V→Prop} {v:V} (h:Sp S v) (k:∀v,S v→T v):Sp T v:=h.trans fun v hv=>Sp.of (k v hv)
theorem Sp.comb {S:V→Prop} {u v:V} (a b:Int) (h:Sp S u) (k:Sp S v):Sp S (fun j=>a*u j+b*v j):=Sp.add (Sp.smul a h) (Sp.smul b k)
theorem Sp.sub {S:V→Prop} {u v:V} (a b:Int) (h:Sp S u) (k:Sp S v):Sp S (fun j=>a*u j-b*v j):=
 (Sp.comb a (-b) h k).congr fun j=>by rw [Int.neg_mul,← Int.sub_eq_add_neg]
theorem Sp.kill {S:V→Prop} {v:V} (h:Sp S v) (φ:V→Int) (h0:φ (fun _=>0)=0) (ha:∀u v,φ (fun j=>u j+v j)=φ u+φ v)
  (hm:∀c u,φ (fun j=>c*u j)=c*φ u) (hS:∀v,S v→φ v=0):φ v=0:=by
 induction h with
 | of h=>exact hS _ h
 | zero=>exact h0
 | add _ _ h1 h2=>rw [ha,h1,h2];rfl
 | smul c _ h=>rw [hm,h,Int.mul_zero]
 | div c hc _ h=>
  rw [hm] at h
  exact (Int.mul_eq_zero.1 h).resolve_left hc
theorem Sp.split {T:V→Prop} {o v:V} (h:Sp (fun u=>u=o∨T u) v):∃a b:Int,a≠0∧Sp T (fun j=>a*v j-b*o j):=by
 induction h with
|of h=>
  rcases h with rfl|h
  ·exact ⟨1,1,by decide,Sp.zero.congr fun j=>by simp⟩
  ·exact ⟨1,0,by decide,(Sp.of h).congr fun j=>by omega⟩
|zero=>exact ⟨1,0,by decide,Sp.zero.congr fun j=>by simp⟩
|add _ _ h1 h2=>
  obtain ⟨a1,b1,ha1,h1⟩:=h1
  obtain ⟨a2,b2,ha2,h2⟩:=h2
  refine ⟨a1*a2,a2*b1+a1*b2,Int.mul_ne_zero ha1 ha2,(Sp.comb a2 a1 h1 h2).congr fun j=>?_⟩
  simp only [Int.mul_sub,Int.mul_add,Int.add_mul,Int.mul_assoc,Int.mul_left_comm a2 a1]
  omega
|smul c _ h=>
  obtain ⟨a,b,ha,h⟩:=h
  refine ⟨a,c*b,ha,(Sp.smul c h).congr fun j=>?_⟩
  simp only [Int.mul_sub,Int.mul_assoc,Int.mul_left_comm]
|div c hc _ h=>
  obtain ⟨a,b,ha,h⟩:=h
  refine ⟨a*c,b,Int.mul_ne_zero ha hc,h.congr fun j=>?_⟩
  simp only [Int.mul_assoc]
def E (c:Nat) (F:List V→Int):List V→Int
 | []=>0
 | R :: Rs=>R c*F Rs-E c (fun X=>F (R :: X)) Rs
def det:List Nat→List V→Int
 | [],_=>1
 | c :: cs,Rs=>E c (det cs) Rs
theorem E_lin (c:Nat) (k l:Int):∀(Rs:List V) (F G:List V→Int),E c (fun X=>k*F X-l*G X) Rs=k*E c F Rs-l*E c G Rs
 | [],F,G=>by simp [E]
 | R :: Rs,F,G=>by
  simp only [E]
  rw [E_lin c k l Rs (fun X=>F (R :: X)) (fun X=>G (R :: X))]
  simp only [Int.mul_sub,Int.mul_left_comm (R c)]
  omega
theorem E_smul (c:Nat) (k:Int) (Rs:List V) (F:List V→Int):E c (fun X=>k*F X) Rs=k*E c F Rs:=by
 have:=E_lin c k 0 Rs F F
 simpa using this
theorem E_zero (c:Nat) (Rs:List V):E c (fun _=>0) Rs=0:=by
 have:=E_smul c 0 Rs (fun _=>0)
 simpa using this
theorem E_swap (a b:Nat):∀(Rs:List V) (F:List V→Int),E a (fun X=>E b F X) Rs =-E b (fun X=>E a F X) Rs
 | [],F=>by simp [E]
 | R :: Rs,F=>by
  have h1:E a (fun X=>E b F (R :: X)) Rs=R b*E a F Rs-E a (fun X=>E b (fun Y=>F (R :: Y)) X) Rs:=by
   have:=E_lin a (R b) 1 Rs F (fun X=>E b (fun Y=>F (R :: Y)) X)
   simpa [E] using this
  have h2:E b (fun X=>E a F (R :: X)) Rs=R a*E b F Rs-E b (fun X=>E a (fun Y=>F (R :: Y)) X) Rs:=by
   have:=E_lin b (R a) 1 Rs F (fun X=>E a (fun Y=>F (R :: Y)) X)
   simpa [E] using this
  have h3:=E_swap a b Rs (fun Y=>F (R :: Y))
  show R a*E b F Rs-E a (fun X=>E b F (R :: X)) Rs = -(R b*E a F Rs-E b (fun X=>E a F (R :: X)) Rs)
  rw [h1,h2,h3]
  omega
theorem det_dup (cs:List Nat):∀(c:Nat),c∈cs→∀Rs,det (c :: cs) Rs=0:=by
 induction cs with
 | nil=>intro c h;simp at h
 | cons d cs ih=>
  intro c h Rs
  have hs:det (c :: d :: cs) Rs =-E d (fun X=>det (c :: cs) X) Rs:=E_swap c d Rs (det cs)
  by_cases e:c=d
  ·subst e
   have:det (c :: c :: cs) Rs=E c (fun X=>det (c :: cs) X) Rs:=rfl
   omega
  ·have hm:c∈cs:=by simpa [e] using h
   rw [hs]
   have:(fun X=>det (c :: cs) X)=fun _=>0:=funext (ih c hm)
   rw [this,E_zero]
   rfl
theorem det_erase (cs:List Nat):∀(c:Nat),c∈cs→∃ε:Int,(ε=1∨ε = -1)∧∀Rs,det (c :: cs.erase c) Rs=ε*det cs Rs:=by
 induction cs with
|nil=>intro c h;simp at h
|cons d cs ih=>
  intro c h
  by_cases e:c=d
  ·subst e
   exact ⟨1,.inl rfl,fun Rs=>by simp⟩
  ·have hm:c∈cs:=by simpa [e] using h
   obtain ⟨ε,he,h⟩:=ih c hm
   refine ⟨-ε,by omega,fun Rs=>?_⟩
   have e1:(d :: cs).erase c=d :: cs.erase c:=by
    rw [List.erase_cons_tail]
    simpa using fun e'=>e e'.symm
   rw [e1]
   have hs:det (c :: d :: cs.erase c) Rs =-E d (fun X=>det (c :: cs.erase c) X) Rs:=E_swap c d Rs (det (cs.erase c))
   rw [hs]
   have:(fun X=>det (c :: cs.erase c) X)=fun X=>ε*det cs X:=funext h
   rw [this,E_smul]
   show -(ε*det (d :: cs) Rs)=_
   rw [Int.neg_mul]
theorem E_mem (F:List V→Int):∀(Rs:List V),Sp (·∈Rs) (fun j=>E j F Rs):=by
 intro Rs
 induction Rs generalizing F with
 | nil=>exact Sp.zero
 | cons R Rs ih=>
  have h1:Sp (·∈R :: Rs) R:=Sp.of (by simp)
  have h2:Sp (·∈R :: Rs) (fun j=>E j (fun X=>F (R :: X)) Rs):=(ih _).mono fun v hv=>by simp [hv]
  exact (Sp.sub (F Rs) 1 h1 h2).congr fun j=>by simp only [E,Int.one_mul,Int.mul_comm]
theorem det_head (cs:List Nat) (o:V) (Rs:List V):Sp (·∈Rs) (fun j=>det (j :: cs) (o :: Rs)-det cs Rs*o j):=by
 have h:=E_mem (fun X=>det cs (o :: X)) Rs
 refine (Sp.smul (-1) h).congr fun j=>?_
 simp only [det,E]
 rw [Int.mul_comm (o j)]
 omega
def fct:Nat→Nat
 | 0=>1
 | n+1=>(n+1)*fct n
def prod (b:Nat→Nat):List Nat→Nat
 | []=>1
 | c :: cs=>b c*prod b cs
theorem E_bound (c:Nat) (B N:Nat):∀(Rs:List V) (F:List V→Int),(∀R∈Rs,(R c).natAbs≤B)→
  (∀X:List V,X.length+1=Rs.length→(∀R∈X,R∈Rs)→(F X).natAbs≤N)→(E c F Rs).natAbs≤Rs.length*(B*N)
 | [],F,_,_=>by simp [E]
 | R :: Rs,F,hR,hF=>by
  have h1:(R c).natAbs≤B:=hR R (by simp)
  have h2:(F Rs).natAbs≤N:=hF Rs (by simp) fun x hx=>by simp [hx]
  have h3:=E_bound c B N Rs (fun X=>F (R :: X)) (fun x hx=>hR x (by simp [hx])) fun X hX hm=>hF (R :: X) (by simp [hX]) fun x hx=>by
   rcases List.mem_cons.1 hx with rfl|hx
   ·simp
   ·simp [hm x hx]
  have h4:(R c*F Rs).natAbs≤B*N:=by rw [Int.natAbs_mul];exact Nat.mul_le_mul h1 h2
  simp only [E,List.length_cons,Nat.add_mul,Nat.one_mul]
  omega
theorem det_bound (b:Nat→Nat):∀(cs:List Nat) (Rs:List V),(∀R∈Rs,∀c∈cs,(R c).natAbs≤b c)→Rs.length=cs.length→
  (det cs Rs).natAbs≤fct cs.length*prod b cs
 | [],Rs,_,_=>by simp [det,fct,prod]
 | c :: cs,Rs,hb,hl=>by
  have:=E_bound c (b c) (fct cs.length*prod b cs) Rs (det cs) (fun R hR=>hb R hR c (by simp)) fun X hX hm=>
   det_bound b cs X (fun R hR d hd=>hb R (hm R hR) d (by simp [hd])) (by simp at hl;omega)
  have e:Rs.length*(b c*(fct cs.length*prod b cs))=fct (c :: cs).length*prod b (c :: cs):=by
   rw [hl]
   simp only [List.length_cons,fct,prod,Nat.mul_assoc,Nat.mul_left_comm]
  rw [← e]
  exact this
end Go.Proofs.YtojkepidkmkmpaaAlg
namespace Go.Proofs.YtojkepidkmkmpaaAlg
def at0 (l:List Int):V:=fun j=>l.getD j 0
def sumOver {α:Type} (f:α→Int):List α→Int
 | []=>0
 | a :: l=>f a+sumOver f l
theorem sumOver_add {α:Type} (f g:α→Int):∀l,sumOver (fun a=>f a+g a) l=sumOver f l+sumOver g l
 | []=>rfl
 | a :: l=>by simp only [sumOver];rw [sumOver_add f g l];omega
theorem sumOver_mul {α:Type} (c:Int) (f:α→Int):∀l,sumOver (fun a=>c*f a) l=c*sumOver f l
 | []=>by simp [sumOver]
 | a :: l=>by simp only [sumOver];rw [sumOver_mul c f l,Int.mul_add]
theorem sumOver_zero {α:Type} (f:α→Int):∀l:List α,(∀a∈l,f a=0)→sumOver f l=0
 | [],_=>rfl
 | a :: l,h=>by simp only [sumOver];rw [h a (by simp),sumOver_zero f l fun x hx=>h x (by simp [hx])];rfl
theorem sumOver_congr {α:Type} (f g:α→Int):∀l:List α,(∀a∈l,f a=g a)→sumOver f l=sumOver g l
 | [],_=>rfl
 | a :: l,h=>by simp only [sumOver];rw [h a (by simp),sumOver_congr f g l fun x hx=>h x (by simp [hx])]
def Piv (P:List (List Int × Nat)):Prop:=(P.map (·.2)).Nodup∧(∀p∈P,at0 p.1 p.2≠0)∧∀p∈P,∀q∈P,p.2≠q.2→at0 p.1 q.2=0
theorem sumOver_one (P:List (List Int × Nat)) (f:List Int × Nat→Int) (q:List Int × Nat) (hn:(P.map (·.2)).Nodup) (hq:q∈P) (h0:∀p∈P,p.2≠q.2→f p=0):sumOver f P=f q:=by
 induction P with
 | nil=>simp at hq
 | cons p P ih=>
  simp only [List.map_cons,List.nodup_cons] at hn
  simp only [sumOver]
  by_cases e:p=q
  ·subst e
   rw [sumOver_zero f P fun a ha=>h0 a (by simp [ha]) fun e=>hn.1 (by rw [← e];exact List.mem_map_of_mem ha)]
   omega
  ·have hm:q∈P:=by simpa [Ne.symm e] using hq
   rw [h0 p (by simp) fun e'=>hn.1 (by rw [e'];exact List.mem_map_of_mem hm),ih hn.2 hm fun a ha=>h0 a (by simp [ha])]
   omega
def res (L:Int) (P:List (List Int × Nat)) (v:V):V:=fun j=>L*v j-sumOver (fun p=>L / at0 p.1 p.2*v p.2*at0 p.1 j) P
theorem res_zero (L:Int) (P:List (List Int × Nat)) (j:Nat):res L P (fun _=>0) j=0:=by
 unfold res
 rw [sumOver_zero _ _ fun p _=>by simp]
 simp
theorem res_add (L:Int) (P:List (List Int × Nat)) (u v:V) (j:Nat):res L P (fun j=>u j+v j) j=res L P u j+res L P v j:=by
 unfold res
 have:=sumOver_add (fun p:List Int × Nat=>L / at0 p.1 p.2*u p.2*at0 p.1 j) (fun p=>L / at0 p.1 p.2*v p.2*at0 p.1 j) P
 have e:sumOver (fun p:List Int × Nat=>L / at0 p.1 p.2*(u p.2+v p.2)*at0 p.1 j) P=sumOver (fun p=>L / at0 p.1 p.2*u p.2*at0 p.1 j+L / at0 p.1 p.2*v p.2*at0 p.1 j) P:=
  sumOver_congr _ _ _ fun p _=>by simp only [Int.mul_add,Int.add_mul]
 rw [e,this,Int.mul_add]
 omega
theorem res_mul (L:Int) (P:List (List Int × Nat)) (c:Int) (u:V) (j:Nat):res L P (fun j=>c*u j) j=c*res L P u j:=by
 unfold res
 have:=sumOver_mul c (fun p:List Int × Nat=>L / at0 p.1 p.2*u p.2*at0 p.1 j) P
 have e:sumOver (fun p:List Int × Nat=>L / at0 p.1 p.2*(c*u p.2)*at0 p.1 j) P=sumOver (fun p=>c*(L / at0 p.1 p.2*u p.2*at0 p.1 j)) P:=
  sumOver_congr _ _ _ fun p _=>by simp only [Int.mul_assoc,Int.mul_left_comm]
 rw [e,this,Int.mul_sub,Int.mul_left_comm]
theorem res_span {P:List (List Int × Nat)} (hP:Piv P) (L:Int) (hL:∀p∈P,at0 p.1 p.2∣L) {v:V} (h:Sp (fun u=>∃p∈P,at0 p.1=u) v) (j:Nat):res L P v j=0:=by
 refine h.kill (fun v=>res L P v j) (res_zero L P j) (fun u v=>res_add L P u v j) (fun c u=>res_mul L P c u j) fun u hu=>?_
 obtain ⟨q,hq,rfl⟩:=hu
 unfold res
 rw [sumOver_one P _ q hP.1 hq fun p hp e=>by
  show L / at0 p.1 p.2*at0 q.1 p.2*at0 p.1 j=0
  rw [hP.2.2 q hq p hp (Ne.symm e)]
  simp]
 rw [Int.ediv_mul_cancel (hL q hq)]
 omega
theorem res_piv {P:List (List Int × Nat)} (hP:Piv P) (L:Int) (hL:∀p∈P,at0 p.1 p.2∣L) (v:V) (q:List Int × Nat) (hq:q∈P):res L P v q.2=0:=by
 unfold res
 rw [sumOver_one P _ q hP.1 hq fun p hp e=>by
  show L / at0 p.1 p.2*v p.2*at0 p.1 q.2=0
  rw [hP.2.2 p hp q hq e]
  simp]
 show L*v q.2-L / at0 q.1 q.2*v q.2*at0 q.1 q.2=0
 have:=Int.ediv_mul_cancel (hL q hq)
 rw [Int.mul_right_comm,this]
 omega
theorem sumOver_mem (S:V→Prop) (P:List (List Int × Nat)) (g:List Int × Nat→Int) (h:∀p∈P,Sp S (at0 p.1)):Sp S (fun j=>sumOver (fun p=>g p*at0 p.1 j) P):=by
 induction P with
 | nil=>exact Sp.zero
 | cons p P ih=>
  exact Sp.add (Sp.smul (g p) (h p (by simp))) (ih fun q hq=>h q (by simp [hq]))
theorem res_mem {S:V→Prop} {P:List (List Int × Nat)} (L:Int) {v:V} (hv:Sp S v) (h:∀p∈P,Sp S (at0 p.1)):Sp S (res L P v):=by
 refine (Sp.sub L 1 hv (sumOver_mem S P (fun p=>L / at0 p.1 p.2*v p.2) h)).congr fun j=>?_
 unfold res
 omega
def common (P:List (List Int × Nat)):Int:=P.foldr (fun p c=>at0 p.1 p.2*c) 1
theorem common_ne {P:List (List Int × Nat)} (h:∀p∈P,at0 p.1 p.2≠0):common P≠0:=by
 induction P with
 | nil=>decide
 | cons p P ih=>exact Int.mul_ne_zero (h p (by simp)) (ih fun q hq=>h q (by simp [hq]))
theorem dvd_common {P:List (List Int × Nat)}:∀p∈P,at0 p.1 p.2∣common P:=by
 induction P with
 | nil=>simp
 | cons p P ih=>
  intro q hq
  rcases List.mem_cons.1 hq with rfl|hq
  ·exact Int.dvd_mul_right _ _
  ·exact Int.dvd_trans (ih q hq) (Int.dvd_mul_left _ _)
theorem zero_of_piv {P:List (List Int × Nat)} (hP:Piv P) {v:V} (h:Sp (fun u=>∃p∈P,at0 p.1=u) v) (h0:∀p∈P,v p.2=0) (j:Nat):v j=0:=by
 have hr:=res_span hP (common P) dvd_common h j
 unfold res at hr
 rw [sumOver_zero _ _ fun p hp=>by rw [h0 p hp];simp] at hr
 have:common P*v j=0:=by omega
 exact (Int.mul_eq_zero.1 this).resolve_left (common_ne hP.2.1)
theorem prop_of_piv {P:List (List Int × Nat)} (hP:Piv P) {u v:V} (hu:Sp (fun u=>∃p∈P,at0 p.1=u) u) (hv:Sp (fun u=>∃p∈P,at0 p.1=u) v)
  (q:List Int × Nat) (h0:∀p∈P,p.2≠q.2→u p.2=0∧v p.2=0) (j:Nat):v q.2*u j=u q.2*v j:=by
 have:=zero_of_piv hP (Sp.sub (v q.2) (u q.2) hu hv) (fun p hp=>by
  by_cases e:p.2=q.2
  ·rw [e,Int.mul_comm];omega
  ·rw [(h0 p hp e).1,(h0 p hp e).2];simp) j
 omega
def Prim (v:V):Prop:=∀d:Int,(∀j,d∣v j)→d∣1
theorem Prim.dvd {v:V} (h:Prim v) (a b:Int) (hb:b≠0) (hd:∀j,b∣a*v j):b∣a:=by
 have hg:(Int.gcd b a:Int)≠0:=by
  intro e
  have:=Int.gcd_eq_zero_iff.1 (by omega:Int.gcd b a=0)
  exact hb this.1
 obtain ⟨b',hb'⟩:=Int.gcd_dvd_left b a
 have h1:b'∣1:=h b' fun j=>by
  have h2:b∣v j*Int.gcd b a:=Int.dvd_mul_gcd_iff_dvd_mul.2 (by rw [Int.mul_comm];exact hd j)
  obtain ⟨c,hc⟩:=h2
  refine ⟨c,?_⟩
  have h3:(Int.gcd b a:Int)*v j=(Int.gcd b a:Int)*(b'*c):=by
   rw [← Int.mul_assoc,← hb',← hc,Int.mul_comm]
  exact Int.eq_of_mul_eq_mul_left hg h3
 obtain ⟨c,hc⟩:=h1
 have h4:(Int.gcd b a:Int)=b*c:=by
  rw [hb',Int.mul_assoc,← hc,Int.mul_one]
  exact congrArg _ (by rw [← hb'])
 exact Int.dvd_trans ⟨c,h4⟩ (Int.gcd_dvd_right b a)
theorem Prim.of_prop {v w:V} (h:Prim v) (a b:Int) (hb:b≠0) (e:∀j,a*v j=b*w j):∃c,(∀j,w j=c*v j)∧a=b*c:=by
 obtain ⟨c,hc⟩:=h.dvd a b hb fun j=>⟨w j,e j⟩
 refine ⟨c,fun j=>?_,hc⟩
 have:=e j
 rw [hc,Int.mul_assoc] at this
 exact (Int.eq_of_mul_eq_mul_left hb this).symm
theorem Prim.bound {v w:V} (h:Prim v) (a b:Int) (ha:a≠0) (hb:b≠0) (e:∀j,a*v j=b*w j) (j:Nat):(v j).natAbs≤(w j).natAbs:=by
 obtain ⟨c,hc,hac⟩:=h.of_prop a b hb e
 have h0:c≠0:=fun h=>ha (by rw [hac,h,Int.mul_zero])
 rw [hc j,Int.natAbs_mul]
 exact Nat.le_mul_of_pos_left _ (Int.natAbs_pos.2 h0)
theorem Prim.eq {v w:V} (hv:Prim v) (hw:Prim w) (a b:Int) (ha:0<a) (hb:0<b) (e:∀j,a*v j=b*w j) (j:Nat):v j=w j:=by
 obtain ⟨c,hc,hac⟩:=hv.of_prop a b (by omega) e
 have h1:c∣1:=hw c fun j=>⟨v j,by rw [hc j]⟩
 have hcp:0<c:=by
  have:0<b*c:=by omega
  exact Int.pos_of_mul_pos_right this (by omega)
 have h2:=Int.le_of_dvd (by decide) h1
 have:c=1:=by omega
 rw [hc j,this,Int.one_mul]
end Go.Proofs.YtojkepidkmkmpaaAlg
namespace Go.Proofs.YtojkepidkmkmpaaAlg
def PS (P:List (List Int × Nat)):V→Prop:=fun u=>∃p∈P,at0 p.1=u
structure St (S : V → Prop) (P : List (List Int × Nat)) (Q : List (List Int)) : Prop where
 piv : Piv P
 rest0 : ∀ q ∈ Q, ∀ p ∈ P, at0 q p.2 = 0
 inP : ∀ p ∈ P, Sp S (at0 p.1)
 inQ : ∀ q ∈ Q, Sp S (at0 q)
 all : ∀ v, S v → Sp (fun u => PS P u ∨ ∃ q ∈ Q, at0 q = u) v
 orig : ∃ Os : List V, (∀ o ∈ Os, S o ∧ Sp (PS P) o) ∧ Os.length = P.length ∧ det (P.map (·.2)) Os ≠ 0
 from_ : ∀ q ∈ Q, ∃ o, S o ∧ Sp (fun u => u = o ∨ PS P u) (at0 q)
theorem St.start (Q:List (List Int)) (S:V→Prop) (h1:∀q∈Q,∃o,S o∧∃g,g≠0∧∀j,g*at0 q j=o j) (h2:∀v,S v→∃q∈Q,∃g,g≠0∧∀j,g*at0 q j=v j):St S [] Q where
 piv:=⟨by simp,by simp,by simp⟩
 rest0:=by simp
 inP:=by simp
 inQ:=fun q hq=>by
  obtain ⟨o,ho,g,hg,e⟩:=h1 q hq
  exact Sp.div g hg ((Sp.of ho).congr fun j=>(e j).symm)
 all:=fun v hv=>by
  obtain ⟨q,hq,g,hg,e⟩:=h2 v hv
  exact (Sp.smul g (Sp.of (.inr ⟨q,hq,rfl⟩))).congr e
 orig:=⟨[],by simp,rfl,by simp [det]⟩
 from_:=fun q hq=>by
  obtain ⟨o,ho,g,hg,e⟩:=h1 q hq
  exact ⟨o,ho,Sp.div g hg ((Sp.of (.inl rfl)).congr fun j=>(e j).symm)⟩
theorem St.rest {S:V→Prop} {P:List (List Int × Nat)} {Q Q':List (List Int)} (h:St S P Q) (h1:∀q∈Q',q∈Q) (h2:∀q∈Q,q∈Q'∨∀j,at0 q j=0):St S P Q' where
 piv:=h.piv
 rest0:=fun q hq=>h.rest0 q (h1 q hq)
 inP:=h.inP
 inQ:=fun q hq=>h.inQ q (h1 q hq)
 all:=fun v hv=>(h.all v hv).trans fun u hu=>by
  rcases hu with hu | ⟨q,hq,rfl⟩
  ·exact Sp.of (.inl hu)
  ·rcases h2 q hq with hq'|h0
   ·exact Sp.of (.inr ⟨q,hq',rfl⟩)
   ·exact Sp.zero.congr fun j=>(h0 j).symm
 orig:=h.orig
 from_:=fun q hq=>h.from_ q (h1 q hq)
theorem at0_prop {S:V→Prop} {P:List (List Int × Nat)} {Q:List (List Int)} (h:St S P Q) (Os:List V) (hO:∀o∈Os,S o∧Sp (PS P) o) (_hl:Os.length=P.length) (hD:det (P.map (·.2)) Os≠0)
  (q:List Int) (hq:q∈Q) (hn:∃j,at0 q j≠0):∃(o:V) (a b:Int),S o∧a≠0∧b≠0∧Sp (PS P) (fun j=>a*at0 q j-b*o j)∧∀j,det (P.map (·.2)) Os*a*at0 q j=b*det (j :: P.map (·.2)) (o :: Os):=by
 obtain ⟨o,ho,hs⟩:=h.from_ q hq
 obtain ⟨a,b,ha,hab⟩:=hs.split
 have hhead:Sp (PS P) (fun j=>det (j :: P.map (·.2)) (o :: Os)-det (P.map (·.2)) Os*o j):=(det_head (P.map (·.2)) o Os).trans fun v hv=>(hO v hv).2
 have hz:∀j,det (P.map (·.2)) Os*a*at0 q j=b*det (j :: P.map (·.2)) (o :: Os):=by
  have hs:Sp (PS P) (fun j=>det (P.map (·.2)) Os*a*at0 q j-b*det (j :: P.map (·.2)) (o :: Os)):=by
   refine (Sp.sub (det (P.map (·.2)) Os) b hab hhead).congr fun j=>?_
   simp only [Int.mul_sub,Int.mul_assoc,Int.mul_left_comm b]
   omega
  intro j
  have:=zero_of_piv h.piv hs (fun p hp=>by
   show det (P.map (·.2)) Os*a*at0 q p.2-b*det (p.2 :: P.map (·.2)) (o :: Os)=0
   rw [h.rest0 q hq p hp,det_dup _ p.2 (List.mem_map_of_mem hp)]
   simp) j
  omega
 refine ⟨o,a,b,ho,ha,?_,hab,hz⟩
 rintro rfl
 obtain ⟨j,hj⟩:=hn
 have:=hz j
 rw [Int.zero_mul] at this
 rcases Int.mul_eq_zero.1 this with h|h
 ·exact Int.mul_ne_zero hD ha h
 ·exact hj h
theorem St.step {S:V→Prop} {P:List (List Int × Nat)} {Q Q':List (List Int)} (h:St S P Q) (q:List Int) (k:Nat) (hk:at0 q k≠0) (hq:q∈Q)
  (hQ:∀x∈Q,x=q∨x∈Q') (hQ':∀x∈Q',x∈Q) (f:List Int→List Int)
  (hf:∀r,((∃p∈P,p.1=r)∨r∈Q')→∃g α β:Int,g≠0∧α≠0∧(∀j,g*at0 (f r) j=α*at0 r j-β*at0 q j)∧at0 (f r) k=0) :
  St S ((q,k) :: P.map fun p=>(f p.1,p.2)) (Q'.map f):=by
 have hcol:((P.map fun p=>(f p.1,p.2)).map (·.2))=P.map (·.2):=by rw [List.map_map];rfl
 have hknot:k ∉ P.map (·.2):=fun hm=>by
  replace hm:=List.mem_map.1 hm
  obtain ⟨p,hp,rfl⟩:=hm
  exact hk (h.rest0 q hq p hp)
 have hfp:∀p∈P,∃g α β:Int,g≠0∧α≠0∧(∀j,g*at0 (f p.1) j=α*at0 p.1 j-β*at0 q j)∧at0 (f p.1) k=0:=fun p hp=>hf p.1 (.inl ⟨p,hp,rfl⟩)
 have hfq:∀r∈Q',∃g α β:Int,g≠0∧α≠0∧(∀j,g*at0 (f r) j=α*at0 r j-β*at0 q j)∧at0 (f r) k=0:=fun r hr=>hf r (.inr hr)
 have hqin:Sp (PS ((q,k) :: P.map fun p=>(f p.1,p.2))) (at0 q):=Sp.of ⟨(q,k),by simp,rfl⟩
 have hold:∀v,PS P v→Sp (PS ((q,k) :: P.map fun p=>(f p.1,p.2))) v:=by
  rintro v ⟨p,hp,rfl⟩
  obtain ⟨g,α,β,hg,hα,e,_⟩:=hfp p hp
  have h1:Sp (PS ((q,k) :: P.map fun p=>(f p.1,p.2))) (at0 (f p.1)):=Sp.of ⟨(f p.1,p.2),List.mem_cons_of_mem _ (List.mem_map.2 ⟨p,hp,rfl⟩),rfl⟩
  refine Sp.div α hα ((Sp.comb g β h1 hqin).congr fun j=>?_)
  rw [e j]
  omega
 refine ⟨⟨?_,?_,?_⟩,?_,?_,?_,?_,?_,?_⟩
 ·simp only [List.map_cons,List.nodup_cons,hcol]
  exact ⟨hknot,h.piv.1⟩
 ·intro p hp
  replace hp:=List.mem_cons.1 hp
  rcases hp with rfl|hp
  ·exact hk
  ·replace hp:=List.mem_map.1 hp
   obtain ⟨p,hp,rfl⟩:=hp
   obtain ⟨g,α,β,hg,hα,e,_⟩:=hfp p hp
   intro h0
   have h1:=e p.2
   have h0':at0 (f p.1) p.2=0:=h0
   rw [h0',h.rest0 q hq p hp] at h1
   have h2:=Int.mul_ne_zero hα (h.piv.2.1 p hp)
   omega
 ·intro p hp p' hp' hne
  replace hp:=List.mem_cons.1 hp
  rcases hp with rfl|hp
  ·replace hp':=List.mem_cons.1 hp'
   rcases hp' with rfl|hp'
   ·exact absurd rfl hne
   ·replace hp':=List.mem_map.1 hp'
    obtain ⟨p',hp',rfl⟩:=hp'
    exact h.rest0 q hq p' hp'
  ·replace hp:=List.mem_map.1 hp
   obtain ⟨p,hp,rfl⟩:=hp
   obtain ⟨g,α,β,hg,hα,e,h0⟩:=hfp p hp
   replace hp':=List.mem_cons.1 hp'
   rcases hp' with rfl|hp'
   ·exact h0
   ·replace hp':=List.mem_map.1 hp'
    obtain ⟨p',hp',rfl⟩:=hp'
    have h1:=e p'.2
    rw [h.rest0 q hq p' hp',h.piv.2.2 p hp p' hp' hne] at h1
    have:g*at0 (f p.1) p'.2=0:=by omega
    exact (Int.mul_eq_zero.1 this).resolve_left hg
 ·intro r hr p hp
  replace hr:=List.mem_map.1 hr
  obtain ⟨r,hr,rfl⟩:=hr
  obtain ⟨g,α,β,hg,hα,e,h0⟩:=hfq r hr
  replace hp:=List.mem_cons.1 hp
  rcases hp with rfl|hp
  ·exact h0
  ·replace hp:=List.mem_map.1 hp
   obtain ⟨p,hp,rfl⟩:=hp
   have h1:=e p.2
   rw [h.rest0 q hq p hp,h.rest0 r (hQ' r hr) p hp] at h1
   have:g*at0 (f r) p.2=0:=by omega
   exact (Int.mul_eq_zero.1 this).resolve_left hg
 ·intro p hp
  replace hp:=List.mem_cons.1 hp
  rcases hp with rfl|hp
  ·exact h.inQ q hq
  ·replace hp:=List.mem_map.1 hp
   obtain ⟨p,hp,rfl⟩:=hp
   obtain ⟨g,α,β,hg,hα,e,h0⟩:=hfp p hp
   exact Sp.div g hg ((Sp.sub α β (h.inP p hp) (h.inQ q hq)).congr fun j=>(e j).symm)
 ·intro r hr
  replace hr:=List.mem_map.1 hr
  obtain ⟨r,hr,rfl⟩:=hr
  obtain ⟨g,α,β,hg,hα,e,h0⟩:=hfq r hr
  exact Sp.div g hg ((Sp.sub α β (h.inQ r (hQ' r hr)) (h.inQ q hq)).congr fun j=>(e j).symm)
 ·intro v hv
  refine (h.all v hv).trans fun u hu=>?_
  rcases hu with hu|⟨r,hr,rfl⟩
  ·exact (hold u hu).mono fun v hv=>.inl hv
  ·rcases hQ r hr with rfl|hr'
   ·exact hqin.mono fun v hv=>.inl hv
   ·obtain ⟨g,α,β,hg,hα,e,_⟩:=hfq r hr'
    have h1:Sp (fun u=>PS ((q,k) :: P.map fun p=>(f p.1,p.2)) u∨∃x∈Q'.map f,at0 x=u) (at0 (f r)):=Sp.of (.inr ⟨f r,List.mem_map_of_mem hr',rfl⟩)
    refine Sp.div α hα ((Sp.comb g β h1 (hqin.mono fun v hv=>.inl hv)).congr fun j=>?_)
    rw [e j]
    omega
 ·obtain ⟨Os,hO,hl,hD⟩:=h.orig
  obtain ⟨o,a,b,ho,ha,hb,hab,hz⟩:=at0_prop h Os hO hl hD q hq ⟨k,hk⟩
  refine ⟨o :: Os,fun x hx=>?_,by simp [hl],?_⟩
  ·replace hx:=List.mem_cons.1 hx
   rcases hx with rfl|hx
   ·refine ⟨ho,Sp.div b hb ?_⟩
    have h1:=hab.trans hold
    refine (Sp.sub a 1 hqin h1).congr fun j=>?_
    omega
   ·exact ⟨(hO x hx).1,(hO x hx).2.trans hold⟩
  ·simp only [List.map_cons,hcol]
   intro h0
   have:=hz k
   rw [h0,Int.mul_zero] at this
   exact Int.mul_ne_zero (Int.mul_ne_zero hD ha) hk this
 ·intro r hr
  replace hr:=List.mem_map.1 hr
  obtain ⟨r,hr,rfl⟩:=hr
  obtain ⟨g,α,β,hg,hα,e,h0⟩:=hfq r hr
  obtain ⟨o,ho,hs⟩:=h.from_ r (hQ' r hr)
  refine ⟨o,ho,Sp.div g hg ?_⟩
  have h1:Sp (fun u=>u=o∨PS ((q,k) :: P.map fun p=>(f p.1,p.2)) u) (at0 r):=hs.trans fun u hu=>by
   rcases hu with rfl|hu
   ·exact Sp.of (.inl rfl)
   ·exact (hold u hu).mono fun v hv=>.inr hv
  exact (Sp.sub α β h1 (hqin.mono fun v hv=>.inr hv)).congr fun j=>(e j).symm
theorem St.bound_piv {S:V→Prop} {P:List (List Int × Nat)} {Q:List (List Int)} (h:St S P Q) (b:Nat→Nat) (hb:∀o,S o→∀j,(o j).natAbs≤b j) (hp:∀p∈P,Prim (at0 p.1)) :
  ∃D:Int,D≠0∧D.natAbs≤fct P.length*prod b (P.map (·.2))∧∀p∈P,∃c:Int,D=at0 p.1 p.2*c∧∀j,(c*at0 p.1 j).natAbs≤fct P.length*(b j*prod b ((P.map (·.2)).erase p.2)):=by
 obtain ⟨Os,hO,hl,hD⟩:=h.orig
 refine ⟨det (P.map (·.2)) Os,hD,?_,fun p hpm=>?_⟩
 ·have:=det_bound b (P.map (·.2)) Os (fun R hR c _=>hb R (hO R hR).1 c) (by simp [hl])
  simpa using this
 ·obtain ⟨ε,hε,he⟩:=det_erase (P.map (·.2)) p.2 (List.mem_map_of_mem hpm)
  have hW0:Sp (PS P) (fun j=>det (j :: (P.map (·.2)).erase p.2) Os):=by
   have h0:Sp (·∈Os) (fun j=>E j (det ((P.map fun x=>x.2).erase p.2)) Os):=E_mem _ Os
   exact h0.trans fun v hv=>(hO v hv).2
  have hW:Sp (PS P) (fun j=>ε*det (j :: (P.map (·.2)).erase p.2) Os):=Sp.smul ε hW0
  have hpr:=prop_of_piv h.piv (v:=at0 p.1) hW (Sp.of ⟨p,hpm,rfl⟩) p fun q hq hne=>⟨by
   show ε*det (q.2 :: (P.map (·.2)).erase p.2) Os=0
   rw [det_dup _ q.2 ((List.mem_erase_of_ne hne).2 (List.mem_map_of_mem hq)),Int.mul_zero],h.piv.2.2 p hpm q hq (Ne.symm hne)⟩
  have hεε:ε*(ε*det (P.map (·.2)) Os)=det (P.map (·.2)) Os:=by rcases hε with rfl|rfl<;>omega
  have hpr':∀j,det (P.map (·.2)) Os*at0 p.1 j=at0 p.1 p.2*(ε*det (j :: (P.map (·.2)).erase p.2) Os):=fun j=>by
   have:=hpr j
   simp only [he Os,hεε] at this
   exact this.symm
  obtain ⟨c,hc,hDc⟩:=(hp p hpm).of_prop _ _ (h.piv.2.1 p hpm) hpr'
  refine ⟨c,hDc,fun j=>?_⟩
  rw [← hc j,Int.natAbs_mul]
  have h1:=det_bound b (j :: (P.map (·.2)).erase p.2) Os (fun R hR c _=>hb R (hO R hR).1 c) (by
   simp only [List.length_cons,List.length_erase_of_mem (List.mem_map_of_mem (f:=(·.2)) hpm),List.length_map,hl]
   have:=List.length_pos_of_mem hpm
   omega)
  have h2:(j :: (P.map (·.2)).erase p.2).length=P.length:=by
   simp only [List.length_cons,List.length_erase_of_mem (List.mem_map_of_mem (f:=(·.2)) hpm),List.length_map]
   have:=List.length_pos_of_mem hpm
   omega
  rw [h2] at h1
  have h3:ε.natAbs=1:=by rcases hε with rfl|rfl<;>rfl
  rw [h3,Nat.one_mul]
  exact h1
theorem St.bound_rest {S:V→Prop} {P:List (List Int × Nat)} {Q:List (List Int)} (h:St S P Q) (b:Nat→Nat) (hb:∀o,S o→∀j,(o j).natAbs≤b j) (q:List Int) (hq:q∈Q) (hp:(∀j,at0 q j=0)∨Prim (at0 q)) (j:Nat) :
  (at0 q j).natAbs≤fct (P.length+1)*(b j*prod b (P.map (·.2))):=by
 by_cases hn:∃j,at0 q j≠0
 ·obtain ⟨Os,hO,hl,hD⟩:=h.orig
  obtain ⟨o,a,c,ho,ha,hc,_,hz⟩:=at0_prop h Os hO hl hD q hq hn
  have hpr:Prim (at0 q):=hp.resolve_left fun h0=>by
   obtain ⟨j,hj⟩:=hn
   exact hj (h0 j)
  have h1:=hpr.bound _ c (Int.mul_ne_zero hD ha) hc hz j
  have h2:=det_bound b (j :: P.map (·.2)) (o :: Os) (fun R hR d _=>by
   rcases List.mem_cons.1 hR with rfl|hR
   ·exact hb _ ho d
   ·exact hb R (hO R hR).1 d) (by simp [hl])
  simp only [List.length_cons,List.length_map,prod] at h2
  omega
 ·have:at0 q j=0:=Classical.byContradiction fun hj=>hn ⟨j,hj⟩
  rw [this]
  simp
end Go.Proofs.YtojkepidkmkmpaaAlg
namespace Go.Proofs.YtojkepidkmkmpaaAlg
structure Red (S : V → Prop) (c : Nat) (P : List (List Int × Nat)) (Q : List (List Int)) : Prop where
 st : St S P Q
 low : ∀ q ∈ Q, ∀ j, j < c → at0 q j = 0
 ncol : ∀ p ∈ P, p.2 < c
 lead : ∀ p ∈ P, ∀ j, j < p.2 → at0 p.1 j = 0
 pos : ∀ p ∈ P, 0 < at0 p.1 p.2
 prim : ∀ p ∈ P, Prim (at0 p.1)
 tq : ∀ q ∈ Q, (∀ j, at0 q j = 0) ∨ (Prim (at0 q) ∧ ∃ k, 0 < at0 q k ∧ ∀ j, j < k → at0 q j = 0)
 sorted : (P.map (·.2)).Pairwise (· > ·)
theorem Red.piv_of {S:V→Prop} {c:Nat} {P:List (List Int × Nat)} {Q:List (List Int)} (h:Red S c P Q) {k:Nat} (hk:k<c) {v:V} (hv:Sp S v) (h0:∀j,j<k→v j=0) (h1:v k≠0):k∈P.map (·.2):=by
 refine Classical.byContradiction fun hn=>?_
 have hP:=h.st.piv
 have hr:res (common P) P v k=0:=by
  refine (hv.trans h.st.all).kill (fun v=>res (common P) P v k) (res_zero _ P k) (fun u v=>res_add _ P u v k) (fun c u=>res_mul _ P c u k) fun u hu=>?_
  rcases hu with hu|⟨q,hq,rfl⟩
  ·exact res_span hP (common P) dvd_common (Sp.of hu) k
  ·unfold res
   rw [sumOver_zero _ _ fun p hp=>by rw [h.st.rest0 q hq p hp];simp,h.low q hq k hk]
   simp
 unfold res at hr
 rw [sumOver_zero _ _ fun p hp=>by
  rcases Nat.lt_trichotomy p.2 k with hlt|heq|hgt
  ·rw [h0 _ hlt];simp
  ·exact absurd (List.mem_map.2 ⟨p,hp,heq⟩) hn
  ·rw [h.lead p hp k hgt];simp] at hr
 have:common P*v k=0:=by omega
 rcases Int.mul_eq_zero.1 this with h|h
 ·exact common_ne hP.2.1 h
 ·exact h1 h
theorem Red.mem_iff {S:V→Prop} {c:Nat} {P:List (List Int × Nat)} {Q:List (List Int)} (h:Red S c P Q) (k:Nat):k∈P.map (·.2)↔k<c∧∃v,Sp S v∧(∀j,j<k→v j=0)∧v k≠0:=by
 constructor
 ·intro hm
  obtain ⟨p,hp,rfl⟩:=List.mem_map.1 hm
  exact ⟨h.ncol p hp,at0 p.1,h.st.inP p hp,h.lead p hp,h.st.piv.2.1 p hp⟩
 ·rintro ⟨hk,v,hv,h0,h1⟩
  exact h.piv_of hk hv h0 h1
theorem sorted_eq:∀(l l':List Nat),l.Pairwise (· > ·)→l'.Pairwise (· > ·)→(∀k,k∈l↔k∈l')→l=l'
 | [],[],_,_,_=>rfl
 | [],b :: l',_,_,h=>absurd ((h b).2 (by simp)) (by simp)
 | a :: l,[],_,_,h=>absurd ((h a).1 (by simp)) (by simp)
 | a :: l,b :: l',h1,h2,h=>by
  have h1':=List.pairwise_cons.1 h1
  have h2':=List.pairwise_cons.1 h2
  have e:a=b:=by
   have ha:=(h a).1 (by simp)
   have hb:=(h b).2 (by simp)
   rcases List.mem_cons.1 ha with e|ha
   ·exact e
   ·rcases List.mem_cons.1 hb with e|hb
    ·exact e.symm
    ·have:=h1'.1 b hb
     have:=h2'.1 a ha
     omega
  subst e
  rw [sorted_eq l l' h1'.2 h2'.2 fun k=>⟨fun hk=>?_,fun hk=>?_⟩]
  ·rcases List.mem_cons.1 ((h k).1 (by simp [hk])) with e|h
   ·have:=h1'.1 k hk;omega
   ·exact h
  ·rcases List.mem_cons.1 ((h k).2 (by simp [hk])) with e|h
   ·have:=h2'.1 k hk;omega
   ·exact h
theorem Red.cols {S S':V→Prop} {c:Nat} {P P':List (List Int × Nat)} {Q Q':List (List Int)} (h:Red S c P Q) (h':Red S' c P' Q') (e:∀v,Sp S v↔Sp S' v):P.map (·.2)=P'.map (·.2):=
 sorted_eq _ _ h.sorted h'.sorted fun k=>by
  rw [h.mem_iff,h'.mem_iff]
  constructor
  ·rintro ⟨hk,v,hv,hh⟩
   exact ⟨hk,v,(e v).1 hv,hh⟩
  ·rintro ⟨hk,v,hv,hh⟩
   exact ⟨hk,v,(e v).2 hv,hh⟩
theorem Red.span {S:V→Prop} {c:Nat} {P:List (List Int × Nat)} {Q:List (List Int)} (h:Red S c P Q) (hz:∀q∈Q,∀j,at0 q j=0) {v:V} (hv:Sp S v):Sp (PS P) v:=
 (hv.trans h.st.all).trans fun u hu=>by
  rcases hu with hu | ⟨q,hq,rfl⟩
  ·exact Sp.of hu
  ·exact Sp.zero.congr fun j=>(hz q hq j).symm
theorem Red.row_eq {S S':V→Prop} {c:Nat} {P P':List (List Int × Nat)} {Q Q':List (List Int)} (h:Red S c P Q) (hz:∀q∈Q,∀j,at0 q j=0) (h':Red S' c P' Q') (e:∀v,Sp S' v→Sp S v) (hc:P.map (·.2)=P'.map (·.2))
  (p p':List Int × Nat) (hp:p∈P) (hp':p'∈P') (hpp:p.2=p'.2) (j:Nat):at0 p.1 j=at0 p'.1 j:=by
 have hu:Sp (PS P) (at0 p.1):=Sp.of ⟨p,hp,rfl⟩
 have hv:Sp (PS P) (at0 p'.1):=h.span hz (e _ (h'.st.inP p' hp'))
 have hpr:=prop_of_piv h.st.piv hu hv p fun r hr hne=>by
  refine ⟨h.st.piv.2.2 p hp r hr (Ne.symm hne),?_⟩
  have hm:r.2∈P'.map (·.2):=by rw [← hc];exact List.mem_map_of_mem hr
  obtain ⟨r',hr',e'⟩:=List.mem_map.1 hm
  rw [← e']
  refine h'.st.piv.2.2 p' hp' r' hr' fun e2=>hne ?_
  rw [hpp,e2]
  exact e'.symm
 have h1:=h.pos p hp
 have h2:=h'.pos p' hp'
 rw [← hpp] at h2
 exact (h.prim p hp).eq (h'.prim p' hp') _ _ h2 h1 hpr j
theorem at0_ext {l l':List Int} (hl:l.length=l'.length) (h:∀j,at0 l j=at0 l' j):l=l':=by
 apply List.ext_getElem hl
 intro i h1 h2
 have:=h i
 unfold at0 at this
 rw [List.getD_eq_getElem?_getD,List.getD_eq_getElem?_getD,List.getElem?_eq_getElem h1,List.getElem?_eq_getElem h2] at this
 exact this
theorem at0_out {l:List Int} {j:Nat} (h:l.length≤j):at0 l j=0:=by
 unfold at0
 rw [List.getD_eq_getElem?_getD,List.getElem?_eq_none h]
 rfl
theorem at0_lt {l:List Int} {j:Nat} (h:j<l.length):at0 l j=l[j]:=by
 unfold at0
 rw [List.getD_eq_getElem?_getD,List.getElem?_eq_getElem h]
 rfl
theorem eq_of_cols:∀(P P':List (List Int × Nat)),P.map (·.2)=P'.map (·.2)→(∀p∈P,∀p'∈P',p.2=p'.2→p.1=p'.1)→P=P'
 | [],[],_,_=>rfl
 | [],_ :: _,h,_=>by simp at h
 | _ :: _,[],h,_=>by simp at h
 | p :: P,p' :: P',h,k=>by
  simp only [List.map_cons,List.cons.injEq] at h
  have e:=k p (by simp) p' (by simp) h.1
  rw [eq_of_cols P P' h.2 fun q hq q' hq'=>k q (by simp [hq]) q' (by simp [hq'])]
  rw [show p=p' from Prod.ext e h.1]
theorem Red.eq {S S':V→Prop} {c n:Nat} {P P':List (List Int × Nat)} {Q Q':List (List Int)} (h:Red S c P Q) (hz:∀q∈Q,∀j,at0 q j=0) (h':Red S' c P' Q') (e:∀v,Sp S v↔Sp S' v)
  (hn:∀p∈P,p.1.length=n) (hn':∀p∈P',p.1.length=n):P=P':=
 eq_of_cols P P' (h.cols h' e) fun p hp p' hp' hpp=>at0_ext (by rw [hn p hp,hn' p' hp']) (h.row_eq hz h' (fun v hv=>(e v).2 hv) (h.cols h' e) p p' hp hp' hpp)
def gcdl (l:List Int):Nat:=l.foldl (fun g x=>Nat.gcd g x.natAbs) 0
theorem foldl_gcd:∀(l:List Int) (g:Nat),l.foldl (fun g x=>Nat.gcd g x.natAbs) g=Nat.gcd g (gcdl l)
 | [],g=>by simp [gcdl]
 | x :: l,g=>by
  unfold gcdl
  simp only [List.foldl_cons]
  rw [foldl_gcd l,foldl_gcd l,Nat.gcd_zero_left,Nat.gcd_assoc]
theorem gcdl_cons (x:Int) (l:List Int):gcdl (x :: l)=Nat.gcd x.natAbs (gcdl l):=by
 show List.foldl _ (Nat.gcd 0 x.natAbs) l=_
 rw [foldl_gcd,Nat.gcd_zero_left]
theorem gcdl_dvd:∀(l:List Int) (j:Nat),(gcdl l:Int)∣at0 l j
 | [],j=>by simp [at0]
 | x :: l,0=>by
  rw [gcdl_cons]
  exact Int.ofNat_dvd_left.2 (Nat.gcd_dvd_left _ _)
 | x :: l,j+1=>by
  rw [gcdl_cons]
  have:=gcdl_dvd l j
  exact Int.dvd_trans (Int.natCast_dvd_natCast.2 (Nat.gcd_dvd_right _ _)) this
theorem dvd_gcdl:∀(l:List Int) (d:Int),(∀j,d∣at0 l j)→d.natAbs∣gcdl l
|[],d,_=>by simp [gcdl]
|x :: l,d,h=>by
  rw [gcdl_cons]
  refine Nat.dvd_gcd (Int.natAbs_dvd_natAbs.2 (h 0)) (dvd_gcdl l d fun j=>h (j+1))
theorem gcdl_zero (l:List Int) (h:gcdl l=0) (j:Nat):at0 l j=0:=by
 have:=gcdl_dvd l j
 rw [h] at this
 simpa using this
def ld (l:List Int):Nat:=l.findIdx (fun x=>x != 0)
theorem ld_le (l:List Int):ld l≤l.length:=List.findIdx_le_length
theorem ld_low (l:List Int) (j:Nat) (h:j<ld l):at0 l j=0:=by
 have hl:=ld_le l
 have:=List.not_of_lt_findIdx h
 rw [at0_lt (by omega)]
 simpa using this
theorem ld_ne (l:List Int) (h:ld l<l.length):at0 l (ld l)≠0:=by
 have:=List.findIdx_getElem (w:=h)
 rw [at0_lt h]
 have h2:(l[ld l] != 0)=true:=this
 simpa using h2
theorem ld_eq (l:List Int) (k:Nat) (h0:∀j,j<k→at0 l j=0) (h1:at0 l k≠0):ld l=k:=by
 have hk:k<l.length:=Nat.lt_of_not_le fun h=>h1 (at0_out h)
 rcases Nat.lt_trichotomy (ld l) k with h|h|h
 ·exact absurd (h0 _ h) (ld_ne l (by omega))
 ·exact h
 ·exact absurd (ld_low l k h) h1
theorem ld_zero (l:List Int) (h:∀j,at0 l j=0):ld l=l.length:=by
 have hl:=ld_le l
 rcases Nat.lt_or_ge (ld l) l.length with h1|h1
 ·exact absurd (h _) (ld_ne l h1)
 ·omega
theorem zero_of_ld (l:List Int) (h:ld l=l.length) (j:Nat):at0 l j=0:=by
 rcases Nat.lt_or_ge j l.length with h1|h1
 ·exact ld_low l j (by omega)
 ·exact at0_out h1
def sg (l:List Int):Int:=if at0 l (ld l)<0 then -(gcdl l:Int) else gcdl l
def tid (l:List Int):List Int:=if gcdl l=0 then l else l.map fun x=>x / sg l
theorem tid_len (l:List Int):(tid l).length=l.length:=by
 unfold tid
 split<;>simp
theorem sg_abs (l:List Int):(sg l).natAbs=gcdl l:=by
 unfold sg
 split<;>simp
theorem sg_dvd (l:List Int) (j:Nat):sg l∣at0 l j:=by
 have:=gcdl_dvd l j
 unfold sg
 split
 ·exact Int.neg_dvd.2 this
 ·exact this
theorem at0_map (l:List Int) (f:Int→Int) (h:f 0=0) (j:Nat):at0 (l.map f) j=f (at0 l j):=by
 unfold at0
 rw [List.getD_eq_getElem?_getD,List.getD_eq_getElem?_getD,List.getElem?_map]
 cases l[j]? with
 | none=>exact h.symm
 | some x=>rfl
theorem tid_mul (l:List Int) (h:gcdl l≠0) (j:Nat):sg l*at0 (tid l) j=at0 l j:=by
 unfold tid
 rw [if_neg h,at0_map _ _ (by simp)]
 exact Int.mul_ediv_cancel' (sg_dvd l j)
theorem sg_ne (l:List Int) (h:gcdl l≠0):sg l≠0:=fun e=>h (by rw [← sg_abs,e];rfl)
theorem tid_prim (l:List Int) (h:gcdl l≠0):Prim (at0 (tid l)):=by
 intro d hd
 have h1:(sg l*d).natAbs∣gcdl l:=dvd_gcdl l _ fun j=>by
  rw [← tid_mul l h j]
  exact Int.mul_dvd_mul_left _ (hd j)
 rw [Int.natAbs_mul,sg_abs] at h1
 have h2:d.natAbs∣1:=Nat.dvd_of_mul_dvd_mul_left (Nat.pos_of_ne_zero h) (by simpa using h1)
 exact Int.natAbs_dvd_natAbs.1 h2
theorem ld_lt (l:List Int) (h:gcdl l≠0):ld l<l.length:=by
 have hl:=ld_le l
 refine Nat.lt_of_not_le fun hge=>h ?_
 have:(0:Int).natAbs∣gcdl l:=dvd_gcdl l 0 fun j=>by rw [zero_of_ld l (by omega) j];exact Int.dvd_refl 0
 simpa using this
theorem tid_pos (l:List Int) (h:gcdl l≠0):0<at0 (tid l) (ld l):=by
 have h1:=tid_mul l h (ld l)
 have h2:=ld_ne l (ld_lt l h)
 have h3:0<gcdl l:=Nat.pos_of_ne_zero h
 have h4:sg l=if at0 l (ld l)<0 then -(gcdl l:Int) else gcdl l:=rfl
 split at h4
 ·have h5:0 < -sg l:=by omega
  refine Int.pos_of_mul_pos_right (a:=-sg l) ?_ (by omega)
  rw [Int.neg_mul]
  omega
 ·have h5:0<sg l:=by omega
  refine Int.pos_of_mul_pos_right (a:=sg l) ?_ (by omega)
  omega
theorem tid_low (l:List Int) (j:Nat) (h:j<ld l):at0 (tid l) j=0:=by
 have h1:=ld_low l j h
 by_cases hg:gcdl l=0
 ·unfold tid
  rw [if_pos hg,h1]
 ·have:=tid_mul l hg j
  rw [h1] at this
  exact (Int.mul_eq_zero.1 this).resolve_left (sg_ne l hg)
theorem tid_tq (l:List Int):(∀j,at0 (tid l) j=0)∨(Prim (at0 (tid l))∧∃k,0<at0 (tid l) k∧∀j,j<k→at0 (tid l) j=0):=by
 by_cases h:gcdl l=0
 ·left
  unfold tid
  rw [if_pos h]
  exact gcdl_zero l h
 ·exact .inr ⟨tid_prim l h,ld l,tid_pos l h,fun j hj=>tid_low l j hj⟩
theorem tid_fac (l:List Int):∃g,g≠0∧∀j,g*at0 (tid l) j=at0 l j:=by
 by_cases h:gcdl l=0
 ·refine ⟨1,by decide,fun j=>?_⟩
  unfold tid
  rw [if_pos h,Int.one_mul]
 ·exact ⟨sg l,sg_ne l h,tid_mul l h⟩
theorem tid_tidy (l:List Int) (hp:Prim (at0 l)) (k:Nat) (h1:0<at0 l k) (h0:∀j,j<k→at0 l j=0):tid l=l:=by
 have hl:ld l=k:=ld_eq l k h0 (by omega)
 have hg:(gcdl l:Int)∣1:=hp _ (gcdl_dvd l)
 have hg':gcdl l=1:=by
  have:=Int.ofNat_dvd_left.1 hg
  simpa using this
 unfold tid sg
 rw [hl,hg',if_neg (by decide),if_neg (by omega)]
 simp
def comb (r q:List Int) (k:Nat):List Int:=List.zipWith (fun x y=>x*at0 q k-y*at0 r k) r q
theorem comb_len (r q:List Int) (k:Nat) (h:r.length=q.length):(comb r q k).length=r.length:=by
 unfold comb
 rw [List.length_zipWith]
 omega
theorem comb_at (r q:List Int) (k:Nat) (h:r.length=q.length) (j:Nat):at0 (comb r q k) j=at0 r j*at0 q k-at0 q j*at0 r k:=by
 rcases Nat.lt_or_ge j r.length with h1|h1
 ·rw [at0_lt (by rw [comb_len r q k h];exact h1),at0_lt h1,at0_lt (l:=q) (j:=j) (by omega)]
  unfold comb
  rw [List.getElem_zipWith]
 ·rw [at0_out (by rw [comb_len r q k h];exact h1),at0_out h1,at0_out (l:=q) (j:=j) (by omega)]
  simp
def clr (k:Nat) (q r:List Int):List Int:=if at0 r k=0 then r else tid (comb r q k)
theorem clr_len (k:Nat) (q r:List Int) (h:r.length=q.length):(clr k q r).length=r.length:=by
 unfold clr
 split
 ·rfl
 ·rw [tid_len,comb_len r q k h]
theorem clr_fac (k:Nat) (q r:List Int) (h:r.length=q.length) (hq:at0 q k≠0):∃g α β:Int,g≠0∧α≠0∧(∀j,g*at0 (clr k q r) j=α*at0 r j-β*at0 q j)∧at0 (clr k q r) k=0:=by
 unfold clr
 split
 ·rename_i h0
  exact ⟨1,1,0,by decide,by decide,fun j=>by omega,h0⟩
 ·obtain ⟨g,hg,e⟩:=tid_fac (comb r q k)
  refine ⟨g,at0 q k,at0 r k,hg,hq,fun j=>?_,?_⟩
  ·rw [e j,comb_at r q k h,Int.mul_comm (at0 q k),Int.mul_comm (at0 r k)]
  ·have:=e k
   rw [comb_at r q k h,Int.mul_comm (at0 r k),Int.sub_self] at this
   exact (Int.mul_eq_zero.1 this).resolve_left hg
theorem clr_lead (k c:Nat) (q r:List Int) (h:r.length=q.length) (hc:0<at0 q c) (hq:∀j,j≤k→at0 q j=0) (hr:∀j,j<k→at0 r j=0) (hp:0<at0 r k) (hpr:Prim (at0 r)):(∀j,j<k→at0 (clr c q r) j=0)∧0<at0 (clr c q r) k∧Prim (at0 (clr c q r)):=by
 unfold clr
 split
 ·exact ⟨hr,hp,hpr⟩
 ·have h0:∀j,j<k→at0 (comb r q c) j=0:=fun j hj=>by
   rw [comb_at r q c h,hr j hj,hq j (by omega)]
   simp
  have h1:0<at0 (comb r q c) k:=by
   rw [comb_at r q c h,hq k (by omega)]
   have:=Int.mul_pos hp hc
   omega
  have hg:gcdl (comb r q c)≠0:=fun e=>by
   have:=gcdl_zero _ e k
   omega
  have hl:=ld_eq _ k h0 (by omega)
  refine ⟨fun j hj=>tid_low _ j (by omega),?_,tid_prim _ hg⟩
  have:=tid_pos _ hg
  rwa [hl] at this
theorem clr_tq (k:Nat) (q r:List Int) (h:(∀j,at0 r j=0)∨(Prim (at0 r)∧∃k,0<at0 r k∧∀j,j<k→at0 r j=0)) :
  (∀j,at0 (clr k q r) j=0)∨(Prim (at0 (clr k q r))∧∃i,0<at0 (clr k q r) i∧∀j,j<i→at0 (clr k q r) j=0):=by
 unfold clr
 split
 ·exact h
 ·exact tid_tq _
theorem Red.step {S:V→Prop} {c n:Nat} {P:List (List Int × Nat)} {Q Q':List (List Int)} (h:Red S c P Q) (hlP:∀p∈P,p.1.length=n) (hlQ:∀q∈Q,q.length=n) (q:List Int) (hc:at0 q c≠0) (hq:q∈Q)
  (hQ:∀x∈Q,x=q∨x∈Q') (hQ':∀x∈Q',x∈Q):Red S (c+1) ((q,c) :: P.map fun p=>(clr c q p.1,p.2)) (Q'.map (clr c q)):=by
 have hst:=h.st.step q c hc hq hQ hQ' (clr c q) fun r hr=>clr_fac c q r (by
  rcases hr with ⟨p,hp,rfl⟩|hr
  ·rw [hlP p hp,hlQ q hq]
  ·rw [hlQ r (hQ' r hr),hlQ q hq]) hc
 have hqp:Prim (at0 q)∧0<at0 q c:=by
  rcases h.tq q hq with h0|⟨hp,k,hk,hl⟩
  ·exact absurd (h0 c) hc
  ·refine ⟨hp,?_⟩
   have h1:c≤k:=Nat.le_of_not_lt fun hlt=>by
    have:=h.low q hq k hlt
    omega
   have h2:k≤c:=Nat.le_of_not_lt fun hlt=>hc (hl c hlt)
   have:k=c:=by omega
   rw [← this]
   exact hk
 have hcl:∀p∈P,(∀j,j<p.2→at0 (clr c q p.1) j=0)∧0<at0 (clr c q p.1) p.2∧Prim (at0 (clr c q p.1)):=fun p hp=>by
  have hn:=h.ncol p hp
  exact clr_lead p.2 c q p.1 (by rw [hlP p hp,hlQ q hq]) hqp.2 (fun j hj=>h.low q hq j (by omega)) (h.lead p hp) (h.pos p hp) (h.prim p hp)
 refine ⟨hst,?_,?_,?_,?_,?_,?_,?_⟩
 ·intro r hr j hj
  replace hr:=List.mem_map.1 hr
  obtain ⟨r,hr,rfl⟩:=hr
  have hrl:=hQ' r hr
  obtain ⟨g,α,β,hg,_,e,h0⟩:=clr_fac c q r (by rw [hlQ r hrl,hlQ q hq]) hc
  by_cases ej:j=c
  ·rw [ej,h0]
  ·have:=e j
   rw [h.low r hrl j (by omega),h.low q hq j (by omega)] at this
   have:g*at0 (clr c q r) j=0:=by omega
   exact (Int.mul_eq_zero.1 this).resolve_left hg
 ·intro p hp
  replace hp:=List.mem_cons.1 hp
  rcases hp with rfl|hp
  ·exact Nat.lt_succ_self _
  ·replace hp:=List.mem_map.1 hp
   obtain ⟨p,hp,rfl⟩:=hp
   have:=h.ncol p hp
   show p.2<c+1
   omega
 ·intro p hp j hj
  replace hp:=List.mem_cons.1 hp
  rcases hp with rfl|hp
  ·exact h.low q hq j hj
  ·replace hp:=List.mem_map.1 hp
   obtain ⟨p,hp,rfl⟩:=hp
   exact (hcl p hp).1 j hj
 ·intro p hp
  replace hp:=List.mem_cons.1 hp
  rcases hp with rfl|hp
  ·exact hqp.2
  ·replace hp:=List.mem_map.1 hp
   obtain ⟨p,hp,rfl⟩:=hp
   exact (hcl p hp).2.1
 ·intro p hp
  replace hp:=List.mem_cons.1 hp
  rcases hp with rfl|hp
  ·exact hqp.1
  ·replace hp:=List.mem_map.1 hp
   obtain ⟨p,hp,rfl⟩:=hp
   exact (hcl p hp).2.2
 ·intro r hr
  replace hr:=List.mem_map.1 hr
  obtain ⟨r,hr,rfl⟩:=hr
  exact clr_tq c q r (h.tq r (hQ' r hr))
 ·simp only [List.map_cons,List.map_map]
  refine List.pairwise_cons.2 ⟨fun k hk=>?_,?_⟩
  ·obtain ⟨p,hp,rfl⟩:=List.mem_map.1 hk
   exact h.ncol p hp
  ·exact h.sorted
theorem Red.skip {S:V→Prop} {c:Nat} {P:List (List Int × Nat)} {Q:List (List Int)} (h:Red S c P Q) (h0:∀q∈Q,at0 q c=0):Red S (c+1) P Q:=
 ⟨h.st,fun q hq j hj=>by
  by_cases e:j=c
  ·rw [e];exact h0 q hq
  ·exact h.low q hq j (by omega),fun p hp=>by have:=h.ncol p hp;omega,h.lead,h.pos,h.prim,h.tq,h.sorted⟩
def RowSp (m:List (List Int)):V→Prop:=fun v=>∃r∈m,at0 r=v
theorem Red.start (m:List (List Int)):Red (RowSp m) 0 [] (m.map tid):=by
 refine ⟨St.start _ _ (fun q hq=>?_) (fun v hv=>?_),fun q _ j hj=>by omega,by simp,by simp,by simp,by simp,fun q hq=>?_,by simp⟩
 ·obtain ⟨r,hr,rfl⟩:=List.mem_map.1 hq
  obtain ⟨g,hg,e⟩:=tid_fac r
  exact ⟨at0 r,⟨r,hr,rfl⟩,g,hg,e⟩
 ·obtain ⟨r,hr,rfl⟩:=hv
  obtain ⟨g,hg,e⟩:=tid_fac r
  exact ⟨tid r,List.mem_map_of_mem hr,g,hg,e⟩
 ·obtain ⟨r,hr,rfl⟩:=List.mem_map.1 hq
  exact tid_tq r
end Go.Proofs.YtojkepidkmkmpaaAlg
namespace Go.Proofs.YtojkepidkmkmpaaAlg
def bnd (m:Nat) (j:Nat):Nat:=if j<m then 2 else 1000
theorem prod_small (m:Nat):∀(l:List Nat),(∀k∈l,k<m)→prod (bnd m) l=2 ^ l.length
 | [],_=>rfl
 | a :: l,h=>by
  simp only [prod,List.length_cons]
  rw [prod_small m l fun k hk=>h k (by simp [hk])]
  unfold bnd
  rw [if_pos (h a (by simp)),Nat.pow_succ,Nat.mul_comm]
theorem len_sorted:∀(l:List Nat) (c:Nat),l.Pairwise (· > ·)→(∀k∈l,k<c)→l.length≤c
 | [],c,_,_=>by simp
 | a :: l,c,h,hc=>by
  have h':=List.pairwise_cons.1 h
  have:=len_sorted l a h'.2 fun k hk=>h'.1 k hk
  have:=hc a (by simp)
  simp only [List.length_cons]
  omega
theorem Red.len {S:V→Prop} {c:Nat} {P:List (List Int × Nat)} {Q:List (List Int)} (h:Red S c P Q):P.length≤c:=by
 have:=len_sorted _ c h.sorted fun k hk=>by
  obtain ⟨p,hp,rfl⟩:=List.mem_map.1 hk
  exact h.ncol p hp
 simpa using this
theorem fp_le:∀n,n<7→fct n*2 ^ n≤46080∧fct n*2 ^ (n-1)*1000≤23040000∧fct (n+1)*2 ^ n*1000≤322560000∧fct n*2 ^ (n-1)*2≤46080:=by decide
theorem bnd_le (m j:Nat):bnd m j≤1000:=by unfold bnd;split<;>omega
theorem Red.small_rest {S:V→Prop} {c m:Nat} {P:List (List Int × Nat)} {Q:List (List Int)} (h:Red S c P Q) (hb:∀o,S o→∀j,(o j).natAbs≤bnd m j) (hc:c≤m) (hm:m≤6) (q:List Int) (hq:q∈Q) (j:Nat):(at0 q j).natAbs≤322560000:=by
 have hl:=h.len
 have h1:=h.st.bound_rest (bnd m) hb q hq (by
  rcases h.tq q hq with h|h
  ·exact .inl h
  ·exact .inr h.1) j
 rw [prod_small m _ fun k hk=>by
  obtain ⟨p,hp,rfl⟩:=List.mem_map.1 hk
  have:=h.ncol p hp
  omega,List.length_map] at h1
 have h2:=(fp_le P.length (by omega)).2.2.1
 have h3:fct (P.length+1)*(bnd m j*2 ^ P.length)≤fct (P.length+1)*(1000*2 ^ P.length):=Nat.mul_le_mul_left _ (Nat.mul_le_mul_right _ (bnd_le m j))
 have h4:fct (P.length+1)*(1000*2 ^ P.length)=fct (P.length+1)*2 ^ P.length*1000:=by
  rw [Nat.mul_comm 1000,Nat.mul_assoc]
 omega
theorem Red.small_piv {S:V→Prop} {c m:Nat} {P:List (List Int × Nat)} {Q:List (List Int)} (h:Red S c P Q) (hb:∀o,S o→∀j,(o j).natAbs≤bnd m j) (hc:c≤m) (hm:m≤6) :
  ∃D:Int,0<D∧D≤46080∧∀p∈P,∃e:Int,0<e∧D=at0 p.1 p.2*e∧(∀j,j<m→(e*at0 p.1 j).natAbs≤46080)∧∀j,(e*at0 p.1 j).natAbs≤23040000:=by
 have hl:=h.len
 obtain ⟨D,hD,hDb,hh⟩:=h.st.bound_piv (bnd m) hb h.prim
 have hk:∀k∈P.map (·.2),k<m:=fun k hk=>by
  obtain ⟨p,hp,rfl⟩:=List.mem_map.1 hk
  have:=h.ncol p hp
  omega
 rw [prod_small m _ hk,List.length_map] at hDb
 have h2:=fp_le P.length (by omega)
 refine ⟨D.natAbs,by omega,by omega,fun p hp=>?_⟩
 obtain ⟨e,he,hj⟩:=hh p hp
 have hpos:=h.pos p hp
 have hnn:(e.natAbs:Int)*at0 p.1 p.2=D.natAbs:=by
  rw [he,Int.natAbs_mul,Int.natCast_mul,Int.mul_comm]
  congr 1
  omega
 have hj':∀j,((e.natAbs:Int)*at0 p.1 j).natAbs≤fct P.length*(bnd m j*2 ^ (P.length-1)):=fun j=>by
  have:=hj j
  rw [prod_small m _ fun k h=>hk k (List.mem_of_mem_erase h),List.length_erase_of_mem (List.mem_map_of_mem hp),List.length_map] at this
  rw [Int.natAbs_mul] at this ⊢
  simpa using this
 have he0:e≠0:=fun e0=>hD (by rw [he,e0,Int.mul_zero])
 refine ⟨e.natAbs,by omega,by rw [← hnn,Int.mul_comm],fun j hjm=>?_,fun j=>?_⟩
 ·have h3:=hj' j
  have h4:bnd m j=2:=by unfold bnd;rw [if_pos hjm]
  rw [h4] at h3
  have h5:fct P.length*(2*2 ^ (P.length-1))=fct P.length*2 ^ (P.length-1)*2:=by rw [Nat.mul_comm 2,Nat.mul_assoc]
  omega
 ·have h3:=hj' j
  have h4:fct P.length*(bnd m j*2 ^ (P.length-1))≤fct P.length*(1000*2 ^ (P.length-1)):=Nat.mul_le_mul_left _ (Nat.mul_le_mul_right _ (bnd_le m j))
  have h5:fct P.length*(1000*2 ^ (P.length-1))=fct P.length*2 ^ (P.length-1)*1000:=by rw [Nat.mul_comm 1000,Nat.mul_assoc]
  omega
theorem Red.small_piv' {S:V→Prop} {c m:Nat} {P:List (List Int × Nat)} {Q:List (List Int)} (h:Red S c P Q) (hb:∀o,S o→∀j,(o j).natAbs≤bnd m j) (hc:c≤m) (hm:m≤6) (p:List Int × Nat) (hp:p∈P) (j:Nat):(at0 p.1 j).natAbs≤23040000:=by
 obtain ⟨D,_,_,hh⟩:=h.small_piv hb hc hm
 obtain ⟨e,he,_,_,hj⟩:=hh p hp
 have:=hj j
 rw [Int.natAbs_mul] at this
 have:1*(at0 p.1 j).natAbs≤e.natAbs*(at0 p.1 j).natAbs:=Nat.mul_le_mul_right _ (by omega)
 omega
end Go.Proofs.YtojkepidkmkmpaaAlg
end
