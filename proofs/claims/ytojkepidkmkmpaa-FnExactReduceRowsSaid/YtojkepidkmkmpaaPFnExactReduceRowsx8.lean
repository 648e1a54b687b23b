/- The law FnExactReduceRows, walked, and laws.markIntSS: for the ways that answer true. Conditions: none of its own. -/
import Derived.Test.YtojkepidkmkmpaaPFnExactReduceRowsx0
import Derived.Test.YtojkepidkmkmpaaPFnExactReduceRowsx1
import Derived.Test.YtojkepidkmkmpaaPFnExactReduceRowsx2
import Derived.Test.YtojkepidkmkmpaaPFnExactReduceRowsx3
import Derived.Test.YtojkepidkmkmpaaPFnExactReduceRowsx4
import Derived.Test.YtojkepidkmkmpaaPFnExactReduceRowsx5
import Derived.Test.YtojkepidkmkmpaaPFnExactReduceRowsx6
import Derived.Test.YtojkepidkmkmpaaPFnExactReduceRowsx7
import Derived.Test.YtojkepidkmkmpaaLawWords
namespace Go.Proofs.Ytojkepidkmkmpaa.PFnExactReduceRows
open Go.RowKit Go.Proofs.YtojkepidkmkmpaaW.PrintWords Go.Proofs.YtojkepidkmkmpaaW.PrintLast Go.Proofs.YtojkepidkmkmpaaW.PrintMore
attribute [local go_sem] max2_int min2_int max_two min_two max_three min_three max_four min_four   -- for this text's walks alone
set_option linter.unusedVariables false
set_option linter.unusedSimpArgs false

def laws_markIntSS.f (k : Nat) : List (List Int) → Int → Option (Int × List (List Int))
  | [], a => some (a, [])
  | x :: l, a => (laws_markIntS.f k x a).bind fun p => (laws_markIntSS.f k l p.1).bind fun q => some (q.1, p.2 :: q.2)
theorem laws_markIntSS.mono (k : Nat) : ∀ (l : List (List Int)) (a : Int), LeO (laws_markIntSS.f k l a) (laws_markIntSS.f (k + 1) l a)
  | [], a => LeO.refl _
  | x :: l, a => by
    unfold laws_markIntSS.f
    exact LeO.bind (laws_markIntS.mono _ _ _) fun p => LeO.bind (laws_markIntSS.mono k l _) fun q => LeO.refl _
theorem laws_markIntSS.len (k : Nat) : ∀ (l : List (List Int)) (a r1 : Int) (r2 : List (List Int)), laws_markIntSS.f k l a = some (r1, r2) → l.length = r2.length
  | [], a, r1, r2, h => by
    have := Option.some.inj h
    cases this
    rfl
  | x :: l, a, r1, r2, h => by
    unfold laws_markIntSS.f at h
    obtain ⟨p, hp, h⟩ := Option.bind_eq_some_iff.1 h
    obtain ⟨q, hq, h⟩ := Option.bind_eq_some_iff.1 h
    have := Option.some.inj h
    cases this
    have := laws_markIntSS.len k l _ q.1 q.2 hq
    simp [this]
open YtojkepidkmkmpaaRed in
set_option maxHeartbeats 8000000 in
set_option maxRecDepth 100000 in
theorem laws_markIntSS.calls (k : Nat) (lo hi : Nat) (v : Value) (X : List (List Int)) (a1 : Int) (r1 : Int) (r2 : List (List Int)) (w0 w : World) (hB : Below w0.heap.size w0 w) (hlo : w0.heap.size ≤ lo) (hS : Wr w lo hi v X) (h : laws_markIntSS.f k X a1 = some (r1, r2)) :
    Calls Try.prog 34 #[v, .int .i64 a1] w fun e w' => e = .returned (.int .i64 r1) ∧ Wr w' lo hi v r2 ∧ Below w0.heap.size w0 w' ∧ Kept w w' (fun k_ => lo ≤ k_ ∧ k_ < hi) := by
  obtain ⟨ts, hsp, hra, hap, hov, hot⟩ := of_S2 hS.2
  obtain ⟨A, c, e0, hc⟩ := hS.form
  subst e0
  have hl : X.length ≤ 9223372036854775807 := Kd.C_max hS.now
  have HHI := Aside0.mk hS.1
  have HSP := Aside0.mk hsp
  have HRA0 := Aside0.mk hra
  have HAP := Aside0.mk hap
  have HOV := Aside0.mk hov
  have HOT := Aside0.mk hot
  have HLEN := Aside0.mk (laws_markIntSS.len k X a1 r1 r2 h)
  have HLO := Aside0.mk hlo
  have H := Aside0.mk h
  have HB := Aside0.mk hB
  clear hS hsp hra hap hov hot hlo h hB hc
  go_enter Try.func34, Try.ntmps34
  go_wp2
  go_loopg [1, 5] (X.length + 1) (fun kq v1 v5 w' => ∃ (i : Nat) (a : Int), v5 = .int .i64 (i : Int) ∧ v1 = .int .i64 a ∧ Aside0 (i ≤ X.length ∧ kq + i = X.length + 1) ∧ Aside0 (laws_markIntSS.f k (X.drop i) a = some (r1, r2.drop i)) ∧ Aside0 (RowsV w' lo ts (mix X r2 i)) ∧ Aside0 (Kept w w' (fun k_ => lo ≤ k_ ∧ k_ < hi ∧ ∃ t ∈ ts, (tv t).ownBlock = some k_)) ∧ Aside0 (Below w0.heap.size w0 w'))
  case atStart => exact ⟨0, a1, by first | rfl | (simp; done), rfl, ⟨by omega, by omega⟩, ⟨by simpa using H.out⟩, ⟨by rw [mix_zero]; exact HRA0.out⟩, ⟨Kept.refl _ _⟩, HB⟩
  case round =>
    clear HB H
    obtain ⟨i, a, rfl, rfl, HI, HF, HRA, HK, HB⟩ := hrel
    have hspr := HSP.out
    have HSPr : Aside0 (TK.R 23 wr lo (fun k_ => some k_ = (Value.slice A X.length c).ownBlock) (.slice A X.length c) ts) := ⟨Kd.R_kept HSP.out HK.out fun k_ hk_ ⟨_, _, t_, ht_, e_⟩ => by
      obtain ⟨j_, hj_⟩ := List.getElem?_of_mem ht_
      have hjl : j_ < X.length := by
        rw [← HRA0.out.len]
        exact (List.getElem?_eq_some_iff.1 hj_).1
      have hrow := HRA0.out.row j_ t_ _ hj_ (List.getElem?_eq_getElem hjl)
      obtain ⟨c1, h1⟩ := Kd.R_typed hrow k_ e_
      obtain ⟨c2, h2⟩ := Kd.R_typed HSP.out k_ hk_.symm
      rw [h1] at h2
      injection h2 with h2
      injection h2 with _ h2
      exact absurd h2 (by decide)⟩
    clear hspr
    by_cases hi_ : i < X.length
    · have hi2 : i < 9223372036854775807 := by omega
      obtain ⟨ad, t, eA, ht, hcell⟩ := TK_at HSPr.out i hi_
      subst eA
      obtain ⟨x, hx⟩ : ∃ x, X[i]? = some x := ⟨_, List.getElem?_eq_getElem hi_⟩
      have hxd : X.drop i = x :: X.drop (i + 1) := by
        rw [List.drop_eq_getElem_cons hi_]
        rw [List.getElem?_eq_getElem hi_] at hx
        rw [Option.some.inj hx]
      have hf := HF.out
      rw [hxd] at hf
      unfold laws_markIntSS.f at hf
      obtain ⟨p, hp, hf⟩ := Option.bind_eq_some_iff.1 hf
      obtain ⟨q, hq, hf⟩ := Option.bind_eq_some_iff.1 hf
      have hf2 := Option.some.inj hf
      have hr1 : q.1 = r1 := congrArg Prod.fst hf2
      have hr2 : p.2 :: q.2 = r2.drop i := congrArg Prod.snd hf2
      have hil : i < r2.length := by have := HLEN.out; omega
      rw [List.drop_eq_getElem_cons hil] at hr2
      injection hr2 with hy hys
      have hy2 : r2[i]? = some p.2 := by rw [List.getElem?_eq_getElem hil, hy]
      have hxm : (mix X r2 i)[i]? = some x := by rw [mix_get _ _ _ _ HLEN.out, if_neg (by omega)]; exact hx
      have hrow := HRA.out.row i t x ht hxm
      obtain ⟨y1, y2⟩ := p
      have AP := Aside0.mk hp
      have HN : Aside0 (laws_markIntSS.f k (X.drop (i + 1)) y1 = some (r1, r2.drop (i + 1))) := ⟨by rw [hq]; congr 1; exact Prod.ext hr1 hys⟩
      have HROW := Aside0.mk hrow
      have HT := Aside0.mk ht
      have HY := Aside0.mk hy2
      have HLB : Aside0 (Kd.R (Kd.int .i64) 3 wr w0.heap.size (fun k_ => some k_ = (tv t).ownBlock) (tv t) x) := ⟨Kd.R_lower hrow HLO.out⟩
      have HBS := Aside0.mk (Kd.R_base hrow)
      clear hx hxd hf hp hq hf2 hr1 hy hys hy2 hxm hrow ht
      go_wp2_with fail
      refine (laws_markIntS.calls k (fun k_ => some k_ = (tv t).ownBlock) (tv t) x a y1 y2 w0 _ HB.out HLB.out AP.out).mono ?_
      rintro e W2 ⟨rfl, hR2, hB2, hK2⟩
      have HB2 := Aside0.mk hB2
      have HK2 := Aside0.mk (Kept.then_ HK.out hK2 fun k_ hs_ => Or.inl (by
        have hm := List.mem_of_getElem? HT.out
        have h1 := HOT.out t hm k_ hs_.symm
        exact ⟨h1.1, h1.2, t, hm, hs_.symm⟩))
      have HRA2 := Aside0.mk (RowsV.step HLEN.out HRA.out HAP.out HT.out HY.out hK2 (by
        obtain ⟨h0, inner, ho, hr⟩ := hR2
        exact ⟨fun k_ hk_ => hk_.symm, inner, ⟨ho.1, by
          rcases ho.2 with h | ⟨g, cap, cur, hv, hb, rest⟩
          · exact .inl h
          · exact .inr ⟨g, cap, cur, hv, HBS.out g (by rw [hv]; rfl), rest⟩⟩, hr⟩))
      clear hR2 hB2 hK2
      go_wp2
      go_roundg (X.length - i)
      case measure => have := HI.out; omega
      case rel => exact ⟨i + 1, y1, by first | go_num | rfl | (simp; done) | (simp [*]; done), rfl, ⟨by omega, by omega⟩, HN, HRA2, HK2, HB2⟩
    · have hie : i = X.length := by have := HI.out; omega
      have HE : Aside0 (RowsV wr lo ts r2 ∧ a = r1) := ⟨by
        have h1 := HRA.out
        have h2 := HF.out
        rw [hie, mix_all _ _ HLEN.out] at h1
        rw [hie, List.drop_length, HLEN.out, List.drop_length] at h2
        exact ⟨h1, congrArg Prod.fst (Option.some.inj h2)⟩⟩
      clear hie
      go_wp2
      go_ret
      refine ⟨by rw [HE.out.2]; rfl, ⟨Nat.le_trans HHI.out HK.out.1, ?_⟩, HB.out, HK.out.mono fun k_ hk_ => ⟨hk_.1, hk_.2.1⟩⟩
      have h1 := to_S2 HSPr.out HE.out.1 HAP.out HOV.out HOT.out
      rw [HLEN.out] at h1 ⊢
      exact h1
def laws_FnExactReduceRows.f (k : Nat) (l0 : List (List Int)) (a1 : Int) : Option Bool :=
  (laws_szIntSS.f k l0 1048576).bind fun s_ => if s_ < 0 then some true else ((laws_toIntSS.f k l0).bind fun y0 => ((spec_ReduceRows.f k y0 a1).bind fun w0 => ((laws_toIntSS.f k l0).bind fun x0 => ((impl_ReduceRows.f k x0 a1).bind fun g0 => ((laws_eqIntSS.f k g0 w0).bind fun b_ => if b_ = true then ((laws_toIntSS.f k l0).bind fun y1 => ((laws_eqIntSS.f k x0 y1).bind fun b_ => if b_ = true then ((laws_markIntSS.f k x0 1).bind fun p_ => match p_ with | (k1, xm) => (if k1 < 0 then none else ((laws_eqIntSS.f k g0 w0).bind fun b_ => if b_ = true then ((laws_markIntSS.f k g0 1).bind fun p_ => match p_ with | (m1, gm) => ((laws_heldIntSS.f k gm 1).bind fun q1 => (if q1 < 0 then none else (if m1 = q1 then ((laws_toIntSS.f k l0).bind fun y2 => ((impl_ReduceRows.f k y2 a1).bind fun h0 => ((laws_eqIntSS.f k h0 w0).bind fun b_ => if b_ = true then ((laws_heldIntSS.f k gm 1).bind fun q2 => (if q2 < 0 then none else (if m1 = q2 then (some true) else none))) else none))) else none)))) else none))) else none)) else none)))))
open YtojkepidkmkmpaaRed in
set_option maxHeartbeats 8000000 in
set_option maxRecDepth 100000 in
theorem laws_FnExactReduceRows.calls (k : Nat) (A0 : Option Addr) (c0 : Nat) (l0 : List (List Int)) (a1 : Int) (r : Bool) (w : World) (hr0 : Kd.C (Kd.slice 3 (Kd.int .i64)) w A0 l0.length l0) (hc0 : l0.length ≤ c0) (h : laws_FnExactReduceRows.f k l0 a1 = some r) :
    Calls Try.prog 11 #[.slice A0 l0.length c0, .int .i64 a1] w fun e w' => e = .returned (.bool r) ∧ Below w.heap.size w w' := by
  have HL0 : Aside0 (Rd (Kd.slice 3 (Kd.int .i64)) w 0 w.heap.size A0 l0) := ⟨Rd.ofC (by first | exact Kd.heap_int _ | exact Kd.heap_slice _ (Kd.heap_int _)) hr0⟩
  have HC0 := Aside0.mk hc0
  clear hr0 hc0
  have HB := Aside0.mk (Below.refl w.heap.size w)
  unfold laws_FnExactReduceRows.f at h
  obtain ⟨s1_, AS1, h⟩ := Option.bind_eq_some_iff.1 h
  have HS1 := Aside0.mk AS1; clear AS1
  by_cases c1 : s1_ < 0
  · rw [if_pos c1] at h
    have c1b0 : decide (s1_ < 0) = true := decide_eq_true c1
    obtain rfl := Option.some.inj h
    go_enter Try.func11, Try.ntmps11
    go_wp2_with fail
    refine (laws_szIntSS.calls k _ _ l0 1048576 s1_ _ (by repeat (first | (with_reducible exact HL0.out.now) | (with_reducible refine Kd.C_alloc ?_ _) | (with_reducible refine Kd.C_drewN ?_ _) | (with_reducible refine Kd.C_drew ?_) | exact HL0.out.now)) HC0.out HS1.out).mono ?_
    rintro e w' ⟨rfl, ⟨nd, rfl⟩⟩
    go_wp2
    go_ret
    exact ⟨rfl, (by repeat (first | (with_reducible first | exact HB.out | apply below_alloc | apply pw_below_drewN | apply below_drew1) | exact HB.out))⟩
  rw [if_neg c1] at h
  have c1b0 : decide (s1_ < 0) = false := decide_eq_false c1
  clear c1
  obtain ⟨y0, HF20, h⟩ := Option.bind_eq_some_iff.1 h
  have HF2 := Aside0.mk HF20; clear HF20
  obtain ⟨w0, HF30, h⟩ := Option.bind_eq_some_iff.1 h
  have HF3 := Aside0.mk HF30; clear HF30
  obtain ⟨x0, HF40, h⟩ := Option.bind_eq_some_iff.1 h
  have HF4 := Aside0.mk HF40; clear HF40
  obtain ⟨g0, HF50, h⟩ := Option.bind_eq_some_iff.1 h
  have HF5 := Aside0.mk HF50; clear HF50
  obtain ⟨b6_, HF60, h⟩ := Option.bind_eq_some_iff.1 h
  have hb6_ : b6_ = true := Decidable.byContradiction fun hh_ => by rw [if_neg hh_] at h; cases h
  rw [if_pos hb6_] at h; subst hb6_
  have HF6 := Aside0.mk HF60; clear HF60
  obtain ⟨y1, HF70, h⟩ := Option.bind_eq_some_iff.1 h
  have HF7 := Aside0.mk HF70; clear HF70
  obtain ⟨b8_, HF80, h⟩ := Option.bind_eq_some_iff.1 h
  have hb8_ : b8_ = true := Decidable.byContradiction fun hh_ => by rw [if_neg hh_] at h; cases h
  rw [if_pos hb8_] at h; subst hb8_
  have HF8 := Aside0.mk HF80; clear HF80
  obtain ⟨⟨k1, xm⟩, HF90, h⟩ := Option.bind_eq_some_iff.1 h
  dsimp only at h
  have HF9 := Aside0.mk HF90; clear HF90
  by_cases c10 : k1 < 0
  · rw [if_pos c10] at h; cases h
  rw [if_neg c10] at h
  have c10b0 : decide (k1 < 0) = false := decide_eq_false c10
  clear c10
  obtain ⟨b11_, HF110, h⟩ := Option.bind_eq_some_iff.1 h
  have hb11_ : b11_ = true := Decidable.byContradiction fun hh_ => by rw [if_neg hh_] at h; cases h
  rw [if_pos hb11_] at h; subst hb11_
  have HF11 := Aside0.mk HF110; clear HF110
  obtain ⟨⟨m1, gm⟩, HF120, h⟩ := Option.bind_eq_some_iff.1 h
  dsimp only at h
  have HF12 := Aside0.mk HF120; clear HF120
  obtain ⟨q1, HF130, h⟩ := Option.bind_eq_some_iff.1 h
  have HF13 := Aside0.mk HF130; clear HF130
  by_cases c14 : q1 < 0
  · rw [if_pos c14] at h; cases h
  rw [if_neg c14] at h
  have c14b0 : decide (q1 < 0) = false := decide_eq_false c14
  clear c14
  have hb15_ : m1 = q1 := Decidable.byContradiction fun hh_ => by rw [if_neg hh_] at h; cases h
  rw [if_pos hb15_] at h; subst hb15_
  obtain ⟨y2, HF160, h⟩ := Option.bind_eq_some_iff.1 h
  have HF16 := Aside0.mk HF160; clear HF160
  obtain ⟨h0, HF170, h⟩ := Option.bind_eq_some_iff.1 h
  have HF17 := Aside0.mk HF170; clear HF170
  obtain ⟨b18_, HF180, h⟩ := Option.bind_eq_some_iff.1 h
  have hb18_ : b18_ = true := Decidable.byContradiction fun hh_ => by rw [if_neg hh_] at h; cases h
  rw [if_pos hb18_] at h; subst hb18_
  have HF18 := Aside0.mk HF180; clear HF180
  obtain ⟨q2, HF190, h⟩ := Option.bind_eq_some_iff.1 h
  have HF19 := Aside0.mk HF190; clear HF190
  by_cases c20 : q2 < 0
  · rw [if_pos c20] at h; cases h
  rw [if_neg c20] at h
  have c20b0 : decide (q2 < 0) = false := decide_eq_false c20
  clear c20
  have hb21_ : m1 = q2 := Decidable.byContradiction fun hh_ => by rw [if_neg hh_] at h; cases h
  rw [if_pos hb21_] at h; subst hb21_
  obtain rfl := Option.some.inj h
  clear h
  have HSZ := Aside0.mk (Nat.le_refl w.heap.size)
  go_enter Try.func11, Try.ntmps11
  go_wp2_with fail
  refine (laws_szIntSS.calls k _ _ l0 1048576 s1_ _ (by repeat (first | (with_reducible exact HL0.out.now) | (with_reducible refine Kd.C_alloc ?_ _) | (with_reducible refine Kd.C_drewN ?_ _) | (with_reducible refine Kd.C_drew ?_) | exact HL0.out.now)) HC0.out HS1.out).mono ?_
  rintro e w' ⟨rfl, ⟨nd, rfl⟩⟩
  go_wp2_with fail
  refine (laws_toIntSS.calls k _ _ l0 y0 _ (by repeat (first | (with_reducible exact HL0.out.now) | (with_reducible refine Kd.C_alloc ?_ _) | (with_reducible refine Kd.C_drewN ?_ _) | (with_reducible refine Kd.C_drew ?_) | exact HL0.out.now)) HC0.out HF2.out).mono ?_
  rintro e W1 ⟨v_, rfl, ho, hb⟩
  have hb1_ : Below w.heap.size w W1 := below_step (by repeat (first | (with_reducible exact Below.refl _ _) | apply below_alloc | apply pw_below_drewN | apply below_drew1)) hb
  have n_HL0 := Aside0.mk (HL0.out.below hb1_)
  clear HL0
  have HL0 := n_HL0
  clear n_HL0
  have n_HB := Aside0.mk (below_step HB.out hb1_); clear HB; have HB := n_HB; clear n_HB
  have n_HSZ := Aside0.mk (And.intro HSZ.out hb1_.size); clear HSZ; have HSZ := n_HSZ; clear n_HSZ
  have Hy0 : Aside0 (Wr W1 w.heap.size W1.heap.size v_ y0) := ⟨Wr.ofS ho⟩
  obtain ⟨A_y0, c_y0, e_y0, hc_y0⟩ := Hy0.out.form; subst e_y0
  have HC_y0 := Aside0.mk hc_y0; clear hc_y0
  clear hb hb1_ ho
  go_wp2_with fail
  refine (spec_ReduceRows.calls k _ _ y0 a1 w0 _ (by repeat (first | (with_reducible exact Hy0.out.now) | (with_reducible refine Kd.C_alloc ?_ _) | (with_reducible refine Kd.C_drewN ?_ _) | (with_reducible refine Kd.C_drew ?_) | exact Hy0.out.now)) HC_y0.out HF3.out).mono ?_
  rintro e W2 ⟨v_, rfl, ho, hb⟩
  have hb1_ : Below W1.heap.size W1 W2 := below_step (by repeat (first | (with_reducible exact Below.refl _ _) | apply below_alloc | apply pw_below_drewN | apply below_drew1)) hb
  have n_HL0 := Aside0.mk (HL0.out.below hb1_)
  have n_Hy0 := Aside0.mk (Hy0.out.below hb1_)
  clear HL0
  have HL0 := n_HL0
  clear n_HL0
  clear Hy0
  have Hy0 := n_Hy0
  clear n_Hy0
  have n_HB := Aside0.mk (below_step HB.out hb1_); clear HB; have HB := n_HB; clear n_HB
  have n_HSZ := Aside0.mk (And.intro HSZ.out hb1_.size); clear HSZ; have HSZ := n_HSZ; clear n_HSZ
  obtain ⟨A_w0, c_w0, e_w0, hc_w0, hr_w0⟩ := Rd.ofN ho; subst e_w0
  have Hw0 : Aside0 (Rd (Kd.slice 3 (Kd.int .i64)) W2 W1.heap.size W2.heap.size A_w0 w0) := ⟨hr_w0⟩; clear hr_w0
  have HC_w0 := Aside0.mk hc_w0; clear hc_w0
  clear hb hb1_ ho
  go_wp2_with fail
  refine (laws_toIntSS.calls k _ _ l0 x0 _ (by repeat (first | (with_reducible exact HL0.out.now) | (with_reducible refine Kd.C_alloc ?_ _) | (with_reducible refine Kd.C_drewN ?_ _) | (with_reducible refine Kd.C_drew ?_) | exact HL0.out.now)) HC0.out HF4.out).mono ?_
  rintro e W3 ⟨v_, rfl, ho, hb⟩
  have hb1_ : Below W2.heap.size W2 W3 := below_step (by repeat (first | (with_reducible exact Below.refl _ _) | apply below_alloc | apply pw_below_drewN | apply below_drew1)) hb
  have n_HL0 := Aside0.mk (HL0.out.below hb1_)
  have n_Hy0 := Aside0.mk (Hy0.out.below hb1_)
  have n_Hw0 := Aside0.mk (Hw0.out.below hb1_)
  clear HL0
  have HL0 := n_HL0
  clear n_HL0
  clear Hy0
  have Hy0 := n_Hy0
  clear n_Hy0
  clear Hw0
  have Hw0 := n_Hw0
  clear n_Hw0
  have n_HB := Aside0.mk (below_step HB.out hb1_); clear HB; have HB := n_HB; clear n_HB
  have n_HSZ := Aside0.mk (And.intro HSZ.out hb1_.size); clear HSZ; have HSZ := n_HSZ; clear n_HSZ
  have Hx0 : Aside0 (Wr W3 W2.heap.size W3.heap.size v_ x0) := ⟨Wr.ofS ho⟩
  obtain ⟨A_x0, c_x0, e_x0, hc_x0⟩ := Hx0.out.form; subst e_x0
  have HC_x0 := Aside0.mk hc_x0; clear hc_x0
  clear hb hb1_ ho
  go_wp2_with fail
  refine (impl_ReduceRows.calls k _ _ x0 a1 g0 _ (by repeat (first | (with_reducible exact Hx0.out.now) | (with_reducible refine Kd.C_alloc ?_ _) | (with_reducible refine Kd.C_drewN ?_ _) | (with_reducible refine Kd.C_drew ?_) | exact Hx0.out.now)) HC_x0.out HF5.out).mono ?_
  rintro e W4 ⟨v_, rfl, ho, hb⟩
  have hb1_ : Below W3.heap.size W3 W4 := below_step (by repeat (first | (with_reducible exact Below.refl _ _) | apply below_alloc | apply pw_below_drewN | apply below_drew1)) hb
  have n_HL0 := Aside0.mk (HL0.out.below hb1_)
  have n_Hy0 := Aside0.mk (Hy0.out.below hb1_)
  have n_Hw0 := Aside0.mk (Hw0.out.below hb1_)
  have n_Hx0 := Aside0.mk (Hx0.out.below hb1_)
  clear HL0
  have HL0 := n_HL0
  clear n_HL0
  clear Hy0
  have Hy0 := n_Hy0
  clear n_Hy0
  clear Hw0
  have Hw0 := n_Hw0
  clear n_Hw0
  clear Hx0
  have Hx0 := n_Hx0
  clear n_Hx0
  have n_HB := Aside0.mk (below_step HB.out hb1_); clear HB; have HB := n_HB; clear n_HB
  have n_HSZ := Aside0.mk (And.intro HSZ.out hb1_.size); clear HSZ; have HSZ := n_HSZ; clear n_HSZ
  have Hg0 : Aside0 (Wr W4 W3.heap.size W4.heap.size v_ g0) := ⟨Wr.ofS ho⟩
  obtain ⟨A_g0, c_g0, e_g0, hc_g0⟩ := Hg0.out.form; subst e_g0
  have HC_g0 := Aside0.mk hc_g0; clear hc_g0
  clear hb hb1_ ho
  go_wp2_with fail
  refine (laws_eqIntSS.calls k _ _ g0 _ _ w0 true _ (by repeat (first | (with_reducible exact Hg0.out.now) | (with_reducible refine Kd.C_alloc ?_ _) | (with_reducible refine Kd.C_drewN ?_ _) | (with_reducible refine Kd.C_drew ?_) | exact Hg0.out.now)) HC_g0.out (by repeat (first | (with_reducible exact Hw0.out.now) | (with_reducible refine Kd.C_alloc ?_ _) | (with_reducible refine Kd.C_drewN ?_ _) | (with_reducible refine Kd.C_drew ?_) | exact Hw0.out.now)) HC_w0.out HF6.out).mono ?_
  rintro e w' ⟨rfl, ⟨nd, rfl⟩⟩
  go_wp2_with fail
  refine (laws_toIntSS.calls k _ _ l0 y1 _ (by repeat (first | (with_reducible exact HL0.out.now) | (with_reducible refine Kd.C_alloc ?_ _) | (with_reducible refine Kd.C_drewN ?_ _) | (with_reducible refine Kd.C_drew ?_) | exact HL0.out.now)) HC0.out HF7.out).mono ?_
  rintro e W5 ⟨v_, rfl, ho, hb⟩
  have hb1_ : Below W4.heap.size W4 W5 := below_step (by repeat (first | (with_reducible exact Below.refl _ _) | apply below_alloc | apply pw_below_drewN | apply below_drew1)) hb
  have n_HL0 := Aside0.mk (HL0.out.below hb1_)
  have n_Hy0 := Aside0.mk (Hy0.out.below hb1_)
  have n_Hw0 := Aside0.mk (Hw0.out.below hb1_)
  have n_Hx0 := Aside0.mk (Hx0.out.below hb1_)
  have n_Hg0 := Aside0.mk (Hg0.out.below hb1_)
  clear HL0
  have HL0 := n_HL0
  clear n_HL0
  clear Hy0
  have Hy0 := n_Hy0
  clear n_Hy0
  clear Hw0
  have Hw0 := n_Hw0
  clear n_Hw0
  clear Hx0
  have Hx0 := n_Hx0
  clear n_Hx0
  clear Hg0
  have Hg0 := n_Hg0
  clear n_Hg0
  have n_HB := Aside0.mk (below_step HB.out hb1_); clear HB; have HB := n_HB; clear n_HB
  have n_HSZ := Aside0.mk (And.intro HSZ.out hb1_.size); clear HSZ; have HSZ := n_HSZ; clear n_HSZ
  have Hy1 : Aside0 (Wr W5 W4.heap.size W5.heap.size v_ y1) := ⟨Wr.ofS ho⟩
  obtain ⟨A_y1, c_y1, e_y1, hc_y1⟩ := Hy1.out.form; subst e_y1
  have HC_y1 := Aside0.mk hc_y1; clear hc_y1
  clear hb hb1_ ho
  go_wp2_with fail
  refine (laws_eqIntSS.calls k _ _ x0 _ _ y1 true _ (by repeat (first | (with_reducible exact Hx0.out.now) | (with_reducible refine Kd.C_alloc ?_ _) | (with_reducible refine Kd.C_drewN ?_ _) | (with_reducible refine Kd.C_drew ?_) | exact Hx0.out.now)) HC_x0.out (by repeat (first | (with_reducible exact Hy1.out.now) | (with_reducible refine Kd.C_alloc ?_ _) | (with_reducible refine Kd.C_drewN ?_ _) | (with_reducible refine Kd.C_drew ?_) | exact Hy1.out.now)) HC_y1.out HF8.out).mono ?_
  rintro e w' ⟨rfl, ⟨nd, rfl⟩⟩
  go_wp2_with fail
  refine (laws_markIntSS.calls k W2.heap.size W3.heap.size _ x0 1 k1 xm w _ (by repeat (first | (with_reducible first | exact HB.out | apply below_alloc | apply pw_below_drewN | apply below_drew1) | exact HB.out)) (by have := HSZ.out; omega) (by repeat (first | (with_reducible exact Hx0.out) | (with_reducible refine Wr.drewN ?_ _))) HF9.out).mono ?_
  rintro e W6 ⟨rfl, hR, hb, hk0⟩
  have hk_ : Kept W5 W6 (fun k_ => W2.heap.size ≤ k_ ∧ k_ < W3.heap.size) := hk0; clear hk0
  have n_HL0 := Aside0.mk (HL0.out.kept hk_ (by intro k_ h1_ h2_ h3_; have := HSZ.out; omega))
  have n_Hy0 := Aside0.mk (Hy0.out.kept hk_ (by intro k_ h1_ h2_ h3_; have := HSZ.out; omega))
  have n_Hw0 := Aside0.mk (Hw0.out.kept hk_ (by intro k_ h1_ h2_ h3_; have := HSZ.out; omega))
  have n_Hg0 := Aside0.mk (Hg0.out.kept hk_ (by intro k_ h1_ h2_ h3_; have := HSZ.out; omega))
  have n_Hy1 := Aside0.mk (Hy1.out.kept hk_ (by intro k_ h1_ h2_ h3_; have := HSZ.out; omega))
  clear HL0
  have HL0 := n_HL0
  clear n_HL0
  clear Hy0
  have Hy0 := n_Hy0
  clear n_Hy0
  clear Hw0
  have Hw0 := n_Hw0
  clear n_Hw0
  clear Hg0
  have Hg0 := n_Hg0
  clear n_Hg0
  clear Hy1
  have Hy1 := n_Hy1
  clear n_Hy1
  have n_Hx0 : Aside0 (Wr W6 W2.heap.size W3.heap.size _ xm) := ⟨hR⟩
  clear Hx0; have Hx0 := n_Hx0; clear n_Hx0
  have n_HSZ := Aside0.mk (And.intro HSZ.out hk_.1); clear HSZ; have HSZ := n_HSZ; clear n_HSZ
  clear HB; have HB := Aside0.mk hb
  have hl_xm : x0.length = xm.length := (laws_markIntSS.len k _ _ _ _ HF9.out)
  have HC_xm : Aside0 (xm.length ≤ c_x0) := ⟨by rw [← hl_xm]; exact HC_x0.out⟩
  rw [hl_xm] at Hx0 ⊢
  clear hb hk_ hR
  go_wp2_with fail
  refine (laws_eqIntSS.calls k _ _ g0 _ _ w0 true _ (by repeat (first | (with_reducible exact Hg0.out.now) | (with_reducible refine Kd.C_alloc ?_ _) | (with_reducible refine Kd.C_drewN ?_ _) | (with_reducible refine Kd.C_drew ?_) | exact Hg0.out.now)) HC_g0.out (by repeat (first | (with_reducible exact Hw0.out.now) | (with_reducible refine Kd.C_alloc ?_ _) | (with_reducible refine Kd.C_drewN ?_ _) | (with_reducible refine Kd.C_drew ?_) | exact Hw0.out.now)) HC_w0.out HF11.out).mono ?_
  rintro e w' ⟨rfl, ⟨nd, rfl⟩⟩
  go_wp2_with fail
  refine (laws_markIntSS.calls k W3.heap.size W4.heap.size _ g0 1 m1 gm w _ (by repeat (first | (with_reducible first | exact HB.out | apply below_alloc | apply pw_below_drewN | apply below_drew1) | exact HB.out)) (by have := HSZ.out; omega) (by repeat (first | (with_reducible exact Hg0.out) | (with_reducible refine Wr.drewN ?_ _))) HF12.out).mono ?_
  rintro e W7 ⟨rfl, hR, hb, hk0⟩
  have hk_ : Kept W6 W7 (fun k_ => W3.heap.size ≤ k_ ∧ k_ < W4.heap.size) := hk0; clear hk0
  have n_HL0 := Aside0.mk (HL0.out.kept hk_ (by intro k_ h1_ h2_ h3_; have := HSZ.out; omega))
  have n_Hy0 := Aside0.mk (Hy0.out.kept hk_ (by intro k_ h1_ h2_ h3_; have := HSZ.out; omega))
  have n_Hw0 := Aside0.mk (Hw0.out.kept hk_ (by intro k_ h1_ h2_ h3_; have := HSZ.out; omega))
  have n_Hy1 := Aside0.mk (Hy1.out.kept hk_ (by intro k_ h1_ h2_ h3_; have := HSZ.out; omega))
  have n_Hx0 := Aside0.mk (Hx0.out.kept hk_ (by intro k_ h1_ h2_ h3_; have := HSZ.out; omega))
  clear HL0
  have HL0 := n_HL0
  clear n_HL0
  clear Hy0
  have Hy0 := n_Hy0
  clear n_Hy0
  clear Hw0
  have Hw0 := n_Hw0
  clear n_Hw0
  clear Hy1
  have Hy1 := n_Hy1
  clear n_Hy1
  clear Hx0
  have Hx0 := n_Hx0
  clear n_Hx0
  have n_Hg0 : Aside0 (Wr W7 W3.heap.size W4.heap.size _ gm) := ⟨hR⟩
  clear Hg0; have Hg0 := n_Hg0; clear n_Hg0
  have n_HSZ := Aside0.mk (And.intro HSZ.out hk_.1); clear HSZ; have HSZ := n_HSZ; clear n_HSZ
  clear HB; have HB := Aside0.mk hb
  have hl_gm : g0.length = gm.length := (laws_markIntSS.len k _ _ _ _ HF12.out)
  have HC_gm : Aside0 (gm.length ≤ c_g0) := ⟨by rw [← hl_gm]; exact HC_g0.out⟩
  rw [hl_gm] at Hg0 ⊢
  clear hb hk_ hR
  go_wp2_with fail
  refine (laws_heldIntSS.calls k _ _ gm 1 m1 _ (by repeat (first | (with_reducible exact Hg0.out.now) | (with_reducible refine Kd.C_alloc ?_ _) | (with_reducible refine Kd.C_drewN ?_ _) | (with_reducible refine Kd.C_drew ?_) | exact Hg0.out.now)) HC_gm.out HF13.out).mono ?_
  rintro e w' ⟨rfl, ⟨nd, rfl⟩⟩
  go_wp2_with fail
  refine (laws_toIntSS.calls k _ _ l0 y2 _ (by repeat (first | (with_reducible exact HL0.out.now) | (with_reducible refine Kd.C_alloc ?_ _) | (with_reducible refine Kd.C_drewN ?_ _) | (with_reducible refine Kd.C_drew ?_) | exact HL0.out.now)) HC0.out HF16.out).mono ?_
  rintro e W8 ⟨v_, rfl, ho, hb⟩
  have hb1_ : Below W7.heap.size W7 W8 := below_step (by repeat (first | (with_reducible exact Below.refl _ _) | apply below_alloc | apply pw_below_drewN | apply below_drew1)) hb
  have n_HL0 := Aside0.mk (HL0.out.below hb1_)
  have n_Hy0 := Aside0.mk (Hy0.out.below hb1_)
  have n_Hw0 := Aside0.mk (Hw0.out.below hb1_)
  have n_Hy1 := Aside0.mk (Hy1.out.below hb1_)
  have n_Hx0 := Aside0.mk (Hx0.out.below hb1_)
  have n_Hg0 := Aside0.mk (Hg0.out.below hb1_)
  clear HL0
  have HL0 := n_HL0
  clear n_HL0
  clear Hy0
  have Hy0 := n_Hy0
  clear n_Hy0
  clear Hw0
  have Hw0 := n_Hw0
  clear n_Hw0
  clear Hy1
  have Hy1 := n_Hy1
  clear n_Hy1
  clear Hx0
  have Hx0 := n_Hx0
  clear n_Hx0
  clear Hg0
  have Hg0 := n_Hg0
  clear n_Hg0
  have n_HB := Aside0.mk (below_step HB.out hb1_); clear HB; have HB := n_HB; clear n_HB
  have n_HSZ := Aside0.mk (And.intro HSZ.out hb1_.size); clear HSZ; have HSZ := n_HSZ; clear n_HSZ
  have Hy2 : Aside0 (Wr W8 W7.heap.size W8.heap.size v_ y2) := ⟨Wr.ofS ho⟩
  obtain ⟨A_y2, c_y2, e_y2, hc_y2⟩ := Hy2.out.form; subst e_y2
  have HC_y2 := Aside0.mk hc_y2; clear hc_y2
  clear hb hb1_ ho
  go_wp2_with fail
  refine (impl_ReduceRows.calls k _ _ y2 a1 h0 _ (by repeat (first | (with_reducible exact Hy2.out.now) | (with_reducible refine Kd.C_alloc ?_ _) | (with_reducible refine Kd.C_drewN ?_ _) | (with_reducible refine Kd.C_drew ?_) | exact Hy2.out.now)) HC_y2.out HF17.out).mono ?_
  rintro e W9 ⟨v_, rfl, ho, hb⟩
  have hb1_ : Below W8.heap.size W8 W9 := below_step (by repeat (first | (with_reducible exact Below.refl _ _) | apply below_alloc | apply pw_below_drewN | apply below_drew1)) hb
  have n_HL0 := Aside0.mk (HL0.out.below hb1_)
  have n_Hy0 := Aside0.mk (Hy0.out.below hb1_)
  have n_Hw0 := Aside0.mk (Hw0.out.below hb1_)
  have n_Hy1 := Aside0.mk (Hy1.out.below hb1_)
  have n_Hx0 := Aside0.mk (Hx0.out.below hb1_)
  have n_Hg0 := Aside0.mk (Hg0.out.below hb1_)
  have n_Hy2 := Aside0.mk (Hy2.out.below hb1_)
  clear HL0
  have HL0 := n_HL0
  clear n_HL0
  clear Hy0
  have Hy0 := n_Hy0
  clear n_Hy0
  clear Hw0
  have Hw0 := n_Hw0
  clear n_Hw0
  clear Hy1
  have Hy1 := n_Hy1
  clear n_Hy1
  clear Hx0
  have Hx0 := n_Hx0
  clear n_Hx0
  clear Hg0
  have Hg0 := n_Hg0
  clear n_Hg0
  clear Hy2
  have Hy2 := n_Hy2
  clear n_Hy2
  have n_HB := Aside0.mk (below_step HB.out hb1_); clear HB; have HB := n_HB; clear n_HB
  have n_HSZ := Aside0.mk (And.intro HSZ.out hb1_.size); clear HSZ; have HSZ := n_HSZ; clear n_HSZ
  have Hh0 : Aside0 (Wr W9 W8.heap.size W9.heap.size v_ h0) := ⟨Wr.ofS ho⟩
  obtain ⟨A_h0, c_h0, e_h0, hc_h0⟩ := Hh0.out.form; subst e_h0
  have HC_h0 := Aside0.mk hc_h0; clear hc_h0
  clear hb hb1_ ho
  go_wp2_with fail
  refine (laws_eqIntSS.calls k _ _ h0 _ _ w0 true _ (by repeat (first | (with_reducible exact Hh0.out.now) | (with_reducible refine Kd.C_alloc ?_ _) | (with_reducible refine Kd.C_drewN ?_ _) | (with_reducible refine Kd.C_drew ?_) | exact Hh0.out.now)) HC_h0.out (by repeat (first | (with_reducible exact Hw0.out.now) | (with_reducible refine Kd.C_alloc ?_ _) | (with_reducible refine Kd.C_drewN ?_ _) | (with_reducible refine Kd.C_drew ?_) | exact Hw0.out.now)) HC_w0.out HF18.out).mono ?_
  rintro e w' ⟨rfl, ⟨nd, rfl⟩⟩
  go_wp2_with fail
  refine (laws_heldIntSS.calls k _ _ gm 1 m1 _ (by repeat (first | (with_reducible exact Hg0.out.now) | (with_reducible refine Kd.C_alloc ?_ _) | (with_reducible refine Kd.C_drewN ?_ _) | (with_reducible refine Kd.C_drew ?_) | exact Hg0.out.now)) HC_gm.out HF19.out).mono ?_
  rintro e w' ⟨rfl, ⟨nd, rfl⟩⟩
  go_wp2
  go_ret
  exact ⟨rfl, (by repeat (first | (with_reducible first | exact HB.out | apply below_alloc | apply pw_below_drewN | apply below_drew1) | exact HB.out))⟩

end Go.Proofs.Ytojkepidkmkmpaa.PFnExactReduceRows
