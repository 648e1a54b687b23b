/-
  Goes on where the text before it ends.
  Conditions: none beside the given statement's own.
-/
import Derived.Lib.SliceRun
import Derived.Deep.QuietTactic
import Derived.BigQuiet
import Derived.Test.YtojkepidkmkmpaaPVBLc
set_option linter.unusedVariables false
set_option linter.unusedSimpArgs false
section
namespace Go.Proofs.Ytojkepidkmkmpaa.PFnExactValueOf
open Go.Proofs.YtojkepidkmkmpaaW.PrintWords.Aside0 renaming mk → aM
open List renaming setIfInBounds_toArray → qa, set_cons_zero → qz, set_cons_succ → qs
open Bool renaming true → tt, false → ff
open Option renaming bind_eq_some_iff → bE

open Go.RowKit Go.Proofs.YtojkepidkmkmpaaW.PrintWords Go.Proofs.YtojkepidkmkmpaaW.PrintLast Go.Proofs.YtojkepidkmkmpaaW.PrintMore
attribute [local go_sem] max2_int min2_int max_two min_two max_three min_three max_four min_four
set_option linter.unusedVariables false
set_option linter.unusedSimpArgs false
theorem slices_IndexFunc_int_int_106.goesV {P : Program} {ops : Array Oper} {Q : Exit → Act → World → Prop} {rest : List Oper} {oi : Oper} {a : Act} {w : World} (N : Option Tmp) (hd : oi.dst = N) (hg : oi.guard = none) {f : FuncId} {fn : Func} {x : Operand} {asx : Array Operand} {ts : Array TypeId} {lb : Array Value} (hf : P.funcs[f]? = some fn) (hname : (fn.name == "runtime.NumGoroutine") = false) (hb : fn.body.isSome = true) (args : Array Value)
  (hop : oi.op = .call { callee := .value x, args := asx, argTypes := ts }) (hx : a.eval x = .func (.func f) #[] lb) (hargs : asx.map a.eval ++ lb = args)
  (h : Calls P f args w fun e w' => ∃ v, e = .returned v ∧ wpList P ops Q rest (a.put N v) w') : wpList P ops Q (oi :: rest) a w := by
 refine wpList_plain hg fun K hK => ?_
 have he := enters_ hf hname hb args w
 have hx' : a.eval x = .func (.func f) #[] lb := hx
 have hargs' : asx.map a.eval ++ lb = args := hargs
 have hrun : (execOp a.eval oi).run P w = .ok (.enter f args) w := by
  unfold execOp
  simp [hop, resolve, Deferred.ofValue, invoke, hx', hargs', he]
 unfold Oper.wp
 rw [hrun, Oper.upon_enter]
 refine h.mono fun e w'' hh => ?_
 obtain ⟨v, rfl, hk⟩ := hh
 subst hd
 exact hK _ _ hk
theorem slices_IndexFunc_int_int_106.pred (k : Nat) (A : Option Addr) (c : Nat) (l : List Int) (t x : Int) (B : Nat) (w : World) (hr : Kd.C (Kd.int .i64) w A l.length l) (hc : l.length ≤ c) (hB : w.cell? ⟨B, 0, none⟩ = some (.int .i64 x)) (h : impl_lead.f k l = some t) :
  Calls Try.prog 107 #[.slice A l.length c, .pointer (some ⟨B, 0, none⟩)] w fun e w' => e = .returned (.bool (t == x)) ∧ Drawn0 w w' := by
 have HR := Aside0.mk hr
 have HC := Aside0.mk hc
 have HH := Aside0.mk h
 clear hr hc h
 go_enter Try.func107, Try.ntmps107
 go_wp2
 go_quiet ((go_at_call 59;(with_reducible refine (impl_lead.calls k _ _ l t _ ?side1 ?side2 HH.out).mono ?_);(case side1 => repeat (first|exact HR.out|(with_reducible refine Kd.C_drewN ?_ _)|(with_reducible refine Kd.C_drew ?_)));(case side2 => exact HC.out);rintro e w' ⟨rfl, ⟨nd, rfl⟩⟩;(first|exact ⟨rfl, _, World.drewN_drewN _ _ _⟩|exact ⟨rfl, _, Eq.trans (World.drewN_drewN _ _ _) (congrArg (World.drewN _) (Nat.add_assoc _ _ _))⟩)))
 go_wp2
 go_ret
 exact ⟨by first|rfl|(simp;done)|(simp [*];done), by repeat (first|exact Drawn0.refl _|apply Drawn0.step)⟩
def slices_IndexFunc_int_int_106.l0 : Nat → List (List Int) → Int → Int → Int → Option (Int)
 | 0, _, _, _, _ => none
 | k + 1, x0, x1, x7, x8 => if x8 < x7 then (if 0 ≤ x8 then (if x8 < (x0.length : Int) then ((impl_lead.f k (rd_L1 x0 x8)).bind fun t148 => (if t148 = x1 then (some x8) else (slices_IndexFunc_int_int_106.l0 k x0 x1 x7 (wrap64 (x8 + 1))))) else (none)) else (none)) else (some (-1))
def slices_IndexFunc_int_int_106.f (k : Nat) (l0 : List (List Int)) (a1 : Int) : Option (Int) := slices_IndexFunc_int_int_106.l0 k l0 a1 (l0.length : Int) 0
set_option maxHeartbeats 8000000 in
set_option maxRecDepth 100000 in
theorem slices_IndexFunc_int_int_106.calls (k : Nat) (A0 : Option Addr) (c0 : Nat) (l0 : List (List Int)) (a1 : Int) (r : Int) (B_ : Nat) (w : World) (hB_ : w.cell? ⟨B_, 0, none⟩ = some (.int .i64 a1)) (hr0 : Kd.C (Kd.slice 3 (Kd.int .i64)) w A0 l0.length l0) (hc0 : l0.length ≤ c0) (h : slices_IndexFunc_int_int_106.f k l0 a1 = some r) :
 Calls Try.prog 106 #[.slice A0 l0.length c0, .func (.func 107) #[] #[.pointer (some ⟨B_, 0, none⟩)]] w fun e w' => e = .returned (.int .i64 r) ∧ Drawn0 w w' := by
 have HB_:=aM hB_;clear hB_;have HR0:=aM hr0;have HC0:=aM hc0;clear hr0 hc0;have H:(slices_IndexFunc_int_int_106.l0 k l0 a1 (l0.length:Int) 0)=some r:=h;clear h;have H':=aM H;clear H;go_enter Try.func106,Try.ntmps106;go_wp2;go_loopg [8] k (fun kq v8 w'=>∃(x8_1:Int),v8 = .int .i64 x8_1∧Aside0 (slices_IndexFunc_int_int_106.l0 kq l0 a1 (l0.length:Int) x8_1=some r)∧Aside0 (kq≤k)∧Drawn0 w w');(case atStart=>exact ⟨(0),zt,H',⟨Nat.le_refl _⟩,by repeat (first|exact Drawn0.refl _|apply Drawn0.step)⟩)
 case round=>
  clear H';(try clear c1);(try clear p2);obtain ⟨x8_1,rfl,HA,HK1,⟨m1,rfl⟩⟩:=hrel;cases gk with
  | zero=>exact absurd HA.out (by simp [slices_IndexFunc_int_int_106.l0])
  | succ k1=>
   have H:=HA.out;clear HA;simp only [slices_IndexFunc_int_int_106.l0] at H;by_cases c3:x8_1<(l0.length:Int)
   ·rw [if_pos c3] at H;have c3b0:decide (x8_1<(l0.length:Int))=true:=decide_eq_true c3;clear c3;obtain ⟨c4b0,H⟩:=iN H;obtain ⟨c5b0,H⟩:=iN H;obtain ⟨t148,A6,H⟩:=bz H;by_cases c7:t148=a1
    ·rw [if_pos c7] at H;have c7b0:(t148 == a1)=true:=beq_iff_eq.mpr c7;have c7b1:(t148 != a1)=false:=bne_eq_false_iff_eq.mpr c7;clear c7;obtain rfl:=Option.some.inj H;have p147:0≤(x8_1:Int):=zd;have q147:x8_1<(l0.length:Int):=zd;obtain ⟨ad147,A147_0,c147_0,e147,hx147_0,hl147_0,hi147_0⟩:=at_L1 HR0.out x8_1 p147 q147;cases e147;have HR147_0:=aM hi147_0;have HC147_0:=aM hl147_0;clear hi147_0 hl147_0;replace p147:=eq_true p147;replace q147:=eq_true q147;go_wp2_with ((with_reducible refine gate_dst (N:=16) rfl ?_);refine slices_IndexFunc_int_int_106.goesV (some 16) rfl rfl Try.func107 (by kernel_rfl) rfl #[.slice A147_0 (rd_L1 l0 x8_1).length c147_0,.pointer (some ⟨B_,0,none⟩)] rfl rfl (by (try simp only [List.map_toArray,List.map_cons,List.map_nil]);first|done|rfl) ?_;refine (slices_IndexFunc_int_int_106.pred k1 _ _ (rd_L1 l0 x8_1) t148 a1 B_ _ ?side1 ?side2 ?side3 A6.out).mono ?_;(case side1=>exact zc HR147_0.out);(case side2=>exact HC147_0.out);(case side3=>exact HB_.out);rintro e w_ ⟨rfl,⟨nd_,rfl⟩⟩;refine ⟨_,rfl,?_⟩);go_ret;exact ⟨zt,zz⟩
    ·rw [if_neg c7] at H;have c7b0:(t148 == a1)=false:=beq_eq_false_iff_ne.mpr c7;have c7b1:(t148 != a1)=true:=bne_iff_ne.mpr c7;have H':=aM H;clear H;have p147:0≤(x8_1:Int):=zd;have q147:x8_1<(l0.length:Int):=zd;obtain ⟨ad147,A147_0,c147_0,e147,hx147_0,hl147_0,hi147_0⟩:=at_L1 HR0.out x8_1 p147 q147;cases e147;have HR147_0:=aM hi147_0;have HC147_0:=aM hl147_0;clear hi147_0 hl147_0;replace p147:=eq_true p147;replace q147:=eq_true q147;go_wp2_with ((with_reducible refine gate_dst (N:=16) rfl ?_);refine slices_IndexFunc_int_int_106.goesV (some 16) rfl rfl Try.func107 (by kernel_rfl) rfl #[.slice A147_0 (rd_L1 l0 x8_1).length c147_0,.pointer (some ⟨B_,0,none⟩)] rfl rfl (by (try simp only [List.map_toArray,List.map_cons,List.map_nil]);first|done|rfl) ?_;refine (slices_IndexFunc_int_int_106.pred k1 _ _ (rd_L1 l0 x8_1) t148 a1 B_ _ ?side1 ?side2 ?side3 A6.out).mono ?_;(case side1=>exact zc HR147_0.out);(case side2=>exact HC147_0.out);(case side3=>exact HB_.out);rintro e w_ ⟨rfl,⟨nd_,rfl⟩⟩;refine ⟨_,rfl,?_⟩);go_roundg k1;(case measure=>have:=HK1.out;omega);(case rel=>exact ⟨(wrap64 (x8_1+1)),zt,H',⟨by have:=HK1.out;omega⟩,by repeat (first|exact Drawn0.refl _|apply Drawn0.step)⟩)
   ·rw [if_neg c3] at H;have c3b0:decide (x8_1<(l0.length:Int))=false:=decide_eq_false c3;clear c3;obtain rfl:=Option.some.inj H;go_wp2;go_ret;exact ⟨zt,zz⟩
def impl_reduceAny.l0 : Nat → Int → List Int → List Int → Int → Int → Int → Option (List Int)
 | 0, _, _, _, _, _, _ => none
 | k + 1, x9, x11, x15, x16, x66, x67 => if x67 < x66 then (if 0 ≤ x67 then (if x67 < (x15.length : Int) then (if 0 ≤ x9 then (if x9 < (x11.length : Int) then (if x67 < (x11.length : Int) then (impl_reduceAny.l0 k x9 x11 (x15.set (x67 : Int).toNat (wrap64 ((wrap64 ((rd x15 x67) * (rd x11 x9))) - (wrap64 ((rd x11 x67) * x16))))) x16 x66 (wrap64 (x67 + 1))) else (none)) else (none)) else (none)) else (none)) else (none)) else ((impl_tidy.f k x15).bind fun t154 => (some t154))
def impl_reduceAny.T26 : Bool × List (List Nat × List Nat) := (true, [([], []), ([], []), ([], []), ([], []), ([2, 3], [2, 3]), ([4], [4]), ([], []), ([], []), ([6, 7], [6, 7]), ([8], [8]), ([5, 9], [5, 9]), ([], []), ([], []), ([11, 12], [11, 12]), ([13], [13]), ([], []), ([14, 15], [14, 15]), ([10, 16], [10, 16]), ([0, 1, 0, 1, 2, 3, 4, 5, 6, 7, 8, 9, 10, 11, 12, 13, 14, 15, 16, 17], [0, 1]), ([18, 17, 0, 1, 2, 3, 4, 5, 6, 7, 8, 9, 10, 11, 12, 13, 14, 15, 16, 17], [17, 18])])
def impl_reduceAny.B26 : List Nat := [0, 0, 0, 0, 12, 28, 0, 0, 192, 448, 1020, 0, 0, 6144, 14336, 0, 63488, 131068, 262143, 524287]
theorem impl_reduceAny.tab26 : rtab .any (opsOf Try.f77 26) = impl_reduceAny.T26 := by kernel_rfl
theorem impl_reduceAny.bits26 : waitsOk impl_reduceAny.T26.2 impl_reduceAny.B26 = true := by kernel_rfl
def impl_reduceAny.mapO (f : List Int → Option (List Int)) : List (List Int) → Option (List (List Int))
 | [] => some []
 | x :: l => (f x).bind fun y => (impl_reduceAny.mapO f l).bind fun m => some (y :: m)
theorem impl_reduceAny.mapO_some (f : List Int → Option (List Int)) : ∀ (l m : List (List Int)), impl_reduceAny.mapO f l = some m → l.length = m.length ∧ ∀ (i : Nat) (x : List Int), l[i]? = some x → ∃ y, m[i]? = some y ∧ f x = some y
|[], m, h => by
  obtain rfl := Option.some.inj h
  exact ⟨rfl, fun i x hx => by simp at hx⟩
|x :: l, m, h => by
  unfold impl_reduceAny.mapO at h
  obtain ⟨y, hy, h⟩ := Option.bind_eq_some_iff.1 h
  obtain ⟨m', hm, h⟩ := Option.bind_eq_some_iff.1 h
  obtain rfl := Option.some.inj h
  obtain ⟨h1, h2⟩ := impl_reduceAny.mapO_some f l m' hm
  refine ⟨by simp [h1], fun i z hz => ?_⟩
  cases i with
 |zero =>
   simp only [List.getElem?_cons_zero] at hz
   cases hz
   exact ⟨y, by simp, hy⟩
 |succ i =>
   simp only [List.getElem?_cons_succ] at hz ⊢
   exact h2 i z hz
theorem impl_reduceAny.mapO_append (f : List Int → Option (List Int)) : ∀ (l m l' m' : List (List Int)), impl_reduceAny.mapO f l = some m → impl_reduceAny.mapO f l' = some m' → impl_reduceAny.mapO f (l ++ l') = some (m ++ m')
 | [], m, l', m', h, h' => by
  obtain rfl := Option.some.inj h
  exact h'
 | x :: l, m, l', m', h, h' => by
  unfold impl_reduceAny.mapO at h
  obtain ⟨y, hy, h⟩ := Option.bind_eq_some_iff.1 h
  obtain ⟨m1, hm, h⟩ := Option.bind_eq_some_iff.1 h
  obtain rfl := Option.some.inj h
  show impl_reduceAny.mapO f (x :: (l ++ l')) = _
  unfold impl_reduceAny.mapO
  rw [hy, impl_reduceAny.mapO_append f l m1 l' m' hm h']
  rfl
def impl_reduceAny.row (k : Nat) (a9 : Int) (l11 l15 : List Int) : Option (List Int) := if 0 ≤ a9 then (if a9 < (l15.length : Int) then (if (rd l15 a9) = 0 then (some l15) else (impl_reduceAny.l0 k a9 l11 l15 (rd l15 a9) (l15.length : Int) 0)) else (none)) else (none)
def impl_reduceAny.lp (k : Nat) : Nat → Nat → List (List Int) → List (List Int) → Option (List (List Int))
 | 0, _, _, Y => some Y
 | d + 1, c, X, Y => (slices_IndexFunc_int_int_106.f k X (c : Int)).bind fun i => if i < 0 then impl_reduceAny.lp k d (c + 1) X Y else if i < (X.length : Int) then (impl_reduceAny.mapO (impl_reduceAny.row k (c : Int) (X.getD i.toNat [])) (X.eraseIdx i.toNat)).bind fun X' => (impl_reduceAny.mapO (impl_reduceAny.row k (c : Int) (X.getD i.toNat [])) Y).bind fun Y' => impl_reduceAny.lp k d (c + 1) X' (Y' ++ [X.getD i.toNat []]) else none
def impl_reduceAny.f (k : Nat) (l0 : List (List Int)) (a1 : Int) : Option (List (List Int)) := (impl_copyRows.f k l0).bind fun m => if 1 ≤ a1 ∧ a1 ≤ 1000000 ∧ m.length ≤ 1000000 ∧ (∀ x ∈ m, (x.length : Int) = a1) then (impl_reduceAny.mapO (impl_tidy.f k) m).bind fun X => impl_reduceAny.lp k a1.toNat 0 X [] else none
theorem impl_reduceAny.open_ {k : Nat} {l0 : List (List Int)} {a1 : Int} {r : List (List Int)} (h : impl_reduceAny.f k l0 a1 = some r) :
  ∃ (n : Nat) (m X : List (List Int)), a1 = (n : Int) ∧ 0 < n ∧ n ≤ 1000000 ∧ impl_copyRows.f k l0 = some m ∧ (∀ x ∈ m, x.length = n) ∧ m.length ≤ 1000000 ∧ impl_reduceAny.mapO (impl_tidy.f k) m = some X ∧ impl_reduceAny.lp k n 0 X [] = some r := by
 unfold impl_reduceAny.f at h
 obtain ⟨m, hm, h⟩ := Option.bind_eq_some_iff.1 h
 split at h
 ·rename_i hc
  obtain ⟨X, hX, h⟩ := Option.bind_eq_some_iff.1 h
  exact ⟨a1.toNat, m, X, by omega, by omega, by omega, hm, fun x hx => by have := hc.2.2.2 x hx; omega, hc.2.2.1, hX, h⟩
 ·cases h
open YtojkepidkmkmpaaRed in
def impl_reduceAny.Inv (k n : Nat) (r : List (List Int)) (w w' : World) (c : Nat) (vR vO : Value) : Prop :=
 ∃ ps qs X Y, impl_reduceAny.lp k (n - c) c X Y = some r ∧ Spine w' w.heap.size n vR ps ∧ Spine w' w.heap.size n vO qs ∧ RowsAre w' w.heap.size n (ps ++ qs) (X ++ Y) ∧ ps.length = X.length ∧ ((ps ++ qs).map (·.1)).Nodup ∧ (∀ k, vR.ownBlock = some k → vO.ownBlock ≠ some k) ∧ ps.length ≤ 1000000 ∧ qs.length ≤ c ∧ Below w.heap.size w w'
open YtojkepidkmkmpaaRed in
set_option maxHeartbeats 8000000 in
set_option maxRecDepth 100000 in
theorem impl_reduceAny.calls (k : Nat) (A0 : Option Addr) (c0 : Nat) (l0 : List (List Int)) (a1 : Int) (r : List (List Int)) (w : World) (hr0 : Kd.C (Kd.slice 3 (Kd.int .i64)) w A0 l0.length l0) (hc0 : l0.length ≤ c0) (h : impl_reduceAny.f k l0 a1 = some r) :
  Calls Try.prog 77 #[.slice A0 l0.length c0, .int .i64 a1] w fun e w' => ∃ v0_ : Value, e = .returned (v0_) ∧ Kd.S (Kd.slice 3 (Kd.int .i64)) 23 w' w.heap.size (fun _ => True) v0_ r ∧ Below w.heap.size w w' := by
 have HR0 := Aside0.mk hr0
 have HC0 := Aside0.mk hc0
 clear hr0 hc0
 have HB := Aside0.mk (Below.refl w.heap.size w)
 obtain ⟨n, m, X1, rfl, hn0, hn1, hcp, hmn, hml, hm, hL⟩ := impl_reduceAny.open_ h
 clear h
 have ACP := Aside0.mk hcp
 have HN := Aside0.mk (And.intro hn0 hn1)
 have HMN := Aside0.mk (And.intro hmn hml)
 have HM := Aside0.mk (impl_reduceAny.mapO_some _ _ _ hm)
 have HL := Aside0.mk hL
 clear hcp hmn hm hL hn0 hn1 hml
 go_enter Try.func77, Try.ntmps77
 go_wp2_with (first|((with_reducible refine gate_callee (f := 104) rfl ?_);refine goesL_ (some 19) rfl rfl Try.func104 (by kernel_rfl) rfl #[.slice A0 l0.length c0] rfl (by (try simp only [List.map_toArray, List.map_cons, List.map_nil]);first|done|rfl|(simp only [List.length_drop, List.length_take];rfl)) ?_;(with_reducible refine (impl_copyRows.calls k _ _ l0 m _ ?side1 ?side2 ACP.out).mono ?_);(case side1 => repeat (first|exact HR0.out|(with_reducible refine Kd.C_alloc ?_ _)|(with_reducible refine Kd.C_drewN ?_ _)|(with_reducible refine Kd.C_drew ?_)));(case side2 => exact HC0.out);rintro e w4 ⟨v150, rfl, ho0, hb⟩;obtain ⟨ps0, hsp, hra, hnd⟩ := of_S ho0 HN.out.1 HMN.out.1;obtain ⟨A1, c1, e1, hle⟩ := hsp.form;subst e1;refine ⟨_, rfl, ?_⟩;have HSP := Aside0.mk hsp;have HRA := Aside0.mk hra;have HND := Aside0.mk hnd;have HLE := Aside0.mk hle;clear HB;have HB := Aside0.mk hb;clear ho0 hsp hra hnd hb hle))
 have HRA0 := HRA
 go_loopg [22] (ps0.length + 1) (fun kq v22 w' => ∃ i : Nat, v22 = .int .i64 (i : Int) ∧ Aside0 (i ≤ ps0.length ∧ kq + i = ps0.length + 1) ∧ Aside0 (RowsAre w' w.heap.size n ps0 (mix m X1 i)) ∧ Aside0 (Kept w4 w' (fun k_ => ∃ p ∈ ps0, k_ = p.1)) ∧ Aside0 (Below w.heap.size w w'))
 case atStart => exact ⟨0, by first|rfl|(simp;done), ⟨by omega, by omega⟩, ⟨by rw [mix_zero];exact HRA.out⟩, ⟨Kept.refl _ _⟩, HB⟩
 case round =>
  clear HRA HB
  obtain ⟨i, rfl, HI, HRA, HK, HB⟩ := hrel
  by_cases hi : i < ps0.length
  ·have hi2 : i < 1000000 := by have := HRA0.out.len;have := HMN.out.2;omega
   have HSPr := Aside0.mk (HSP.out.kept HK.out (fun k_ hk_ ⟨p_, hp_, e_⟩ => by
    obtain ⟨x_, hx_⟩ := (RowsAre.kept HRA0.out (Kept.refl w4 (fun _ => False)) (fun _ _ h => h)).mem hp_
    exact HSP.out.apart hx_ (by rw [hk_, e_])))
   obtain ⟨ad, p, eA, hp, hcell⟩ := HSPr.out.atN i hi
   subst eA
   obtain ⟨x, hx, hrow⟩ := HRA.out.get hp
   have hxm : m[i]? = some x := by
    rw [mix_get _ _ _ _ HM.out.1, if_neg (by omega)] at hx
    exact hx
   obtain ⟨y, hy, hf⟩ := HM.out.2 i x hxm
   have AT := Aside0.mk hf
   have HY := Aside0.mk hy
   have HP := Aside0.mk hp
   have HROW := Aside0.mk hrow
   clear hx hxm hy hf hp hrow
   go_wp2_with (first|((with_reducible refine gate_callee (f := 105) rfl ?_);refine goesL_ (some 27) rfl rfl Try.func105 (by kernel_rfl) rfl #[.slice (some ⟨p.1, 0, none⟩) n p.2] rfl (by (try simp only [List.map_toArray, List.map_cons, List.map_nil]);first|done|rfl|(simp only [List.length_drop, List.length_take];rfl)) ?_;(with_reducible refine (impl_tidy.calls k (fun k_ => k_ = p.1) (.slice (some ⟨p.1, 0, none⟩) n p.2) x y w _ ?side1 ?side2 AT.out).mono ?_);(case side1 => exact HB.out);(case side2 => exact HROW.out);rintro e w32 ⟨rfl, hy0, hb, hkp⟩;refine ⟨_, rfl, ?_⟩;have HR2 := Aside0.mk (RowsAre.step HM.out.1 HRA.out HND.out HP.out HY.out hkp (Kd.R_reok rfl hy0 (fun k_ e_ => (Option.some.inj e_).symm)));have HK2 := Aside0.mk (Kept.then_ HK.out hkp (fun k_ hs_ => Or.inl ⟨p, List.mem_of_getElem? HP.out, hs_⟩));have HB2 := Aside0.mk hb;clear hy0 hb hkp))
   go_roundg (ps0.length - i)
   case measure => have := HI.out;omega
   case rel => exact ⟨i + 1, by first|go_num|rfl|(simp;done)|(simp [*];done), ⟨by omega, by omega⟩, HR2, HK2, HB2⟩
  ·have HSPr := Aside0.mk (HSP.out.kept HK.out (fun k_ hk_ ⟨p_, hp_, e_⟩ => by
    obtain ⟨x_, hx_⟩ := (RowsAre.kept HRA0.out (Kept.refl w4 (fun _ => False)) (fun _ _ h => h)).mem hp_
    exact HSP.out.apart hx_ (by rw [hk_, e_])))
   have HINV : Aside0 (impl_reduceAny.Inv k n r w wr 0 (.slice A1 ps0.length c1) (.slice none 0 0)) := ⟨ps0, [], X1, [], HL.out, HSPr.out, Spine.nil _ _ _, by
    have h1 := HRA.out
    have h2 : i = m.length := by have := HI.out;have := HRA0.out.len;omega
    rw [h2, mix_all _ _ HM.out.1] at h1
    simpa using h1, by have := HRA0.out.len;have := HM.out.1;omega, by simpa using HND.out, by simp [Value.ownBlock], by have := HRA0.out.len;have := HMN.out.2;omega, by simp, HB.out⟩
   have HN1 := HN.out.1
   have HN2 := HN.out.2
   go_wp2
   clear HSPr HRA HK HB HI HRA0 HSP HND HLE HMN HM HL ACP HR0 HC0 hi
   go_loopg [5, 8, 30] (n + 1) (fun kq v5 v8 v30 w' => ∃ c : Nat, v30 = .int .i64 (c : Int) ∧ Aside0 (c ≤ n ∧ kq + c = n + 1) ∧ Aside0 (impl_reduceAny.Inv k n r w w' c v5 v8))
   case atStart => exact ⟨0, by first|rfl|(simp;done), ⟨by omega, by omega⟩, HINV⟩
   case round =>
    clear HINV
    obtain ⟨c, rfl, HC, HINV⟩ := hrel
    obtain ⟨ps, qs, X, Y, hlp, hsp, hso, hra, hlen, hnd, hvv, hps, hqs, hb⟩ := HINV.out
    clear HINV
    obtain ⟨A5, c5, e5, hl5⟩ := hsp.form
    subst e5
    obtain ⟨A8, c8, e8, hl8⟩ := hso.form
    subst e8
    have HSP := Aside0.mk hsp
    have HSO := Aside0.mk hso
    have HRA := Aside0.mk hra
    have HLEN := Aside0.mk hlen
    have HND := Aside0.mk hnd
    have HVV := Aside0.mk hvv
    have HB := Aside0.mk hb
    have HCAP := Aside0.mk (And.intro hl5 hl8)
    clear hsp hso hra hlen hnd hvv hb hl5 hl8
    by_cases hc : c < n
    ·obtain ⟨d, hd⟩ : ∃ d, n - c = d + 1 := ⟨n - c - 1, by omega⟩
     rw [hd] at hlp
     unfold impl_reduceAny.lp at hlp
     obtain ⟨t, ht, hlp⟩ := Option.bind_eq_some_iff.1 hlp
     have AT := Aside0.mk ht
     have HD := Aside0.mk hd
     clear ht hd
     have hc2 : c < 1000000 := by omega
     have HXC := Aside0.mk (to_C HSP.out (HRA.out.left HLEN.out) (by have h := HND.out;rw [List.map_append] at h;exact (List.nodup_append.1 h).1))
     have H106 : Aside0 (Calls Try.prog 106 #[.slice A5 ps.length c5, .func (.func 107) #[] #[.pointer (some ⟨wr.heap.size, 0, none⟩)]] (wr.alloc (.cells #[.int .i64 (c : Int)] 3)) fun e w' => e = .returned (.int .i64 t) ∧ Drawn0 (wr.alloc (.cells #[.int .i64 (c : Int)] 3)) w') := ⟨by
      have hcap := HCAP.out.1
      rw [HLEN.out] at hcap ⊢
      exact slices_IndexFunc_int_int_106.calls k _ _ X (c : Int) t wr.heap.size _ (cell_new _ _ _) (Kd.C_alloc HXC.out _) hcap AT.out⟩
     by_cases htn : t < 0
     ·rw [if_pos htn] at hlp
      have HL := Aside0.mk hlp
      clear hlp
      have c1b0 : decide (t < 0) = true := decide_eq_true htn
      go_wp2_with fail
      refine (H106.out).mono ?_
      rintro e W2 ⟨rfl, hdr⟩
      have HK2 := Aside0.mk (drawn_kept hdr (fun _ => False))
      have HB2 := Aside0.mk (drawn_below hdr HB.out)
      clear hdr
      go_wp2
      go_roundg (n - c)
      case measure => have := HC.out;omega
      case rel =>
       refine ⟨c + 1, by first|go_num|rfl|(simp;done)|(simp [*];done), ⟨by omega, by omega⟩, ⟨ps, qs, X, Y, ?_, HSP.out.kept HK2.out (fun _ _ h => h), HSO.out.kept HK2.out (fun _ _ h => h), HRA.out.kept HK2.out (fun _ _ h => h), HLEN.out, HND.out, HVV.out, hps, by omega, HB2.out⟩⟩
       have := HD.out
       rw [show n - (c + 1) = d by omega]
       exact HL.out
     ·rw [if_neg htn] at hlp
      by_cases htx : t < (X.length : Int)
      ·rw [if_pos htx] at hlp
       obtain ⟨ix, rfl⟩ : ∃ ix : Nat, t = (ix : Int) := ⟨t.toNat, by omega⟩
       rw [Int.toNat_natCast] at hlp
       obtain ⟨X2, hX2, hlp⟩ := Option.bind_eq_some_iff.1 hlp
       obtain ⟨Y2, hY2, hlp⟩ := Option.bind_eq_some_iff.1 hlp
       have hix : ix < ps.length := by have := HLEN.out;omega
       have hix2 : ix < 1000000 := by omega
       obtain ⟨P, hP⟩ : ∃ P : List Int, P = X.getD ix [] := ⟨_, rfl⟩
       rw [← hP] at hX2 hY2 hlp
       have HZ := Aside0.mk (impl_reduceAny.mapO_some _ _ _ (impl_reduceAny.mapO_append _ _ _ _ _ hX2 hY2))
       have HX2 := Aside0.mk (impl_reduceAny.mapO_some _ _ _ hX2).1
       have HL := Aside0.mk hlp
       clear hX2 hY2 hlp htx htn
       obtain ⟨g, eA, hgb, hat⟩ := HSP.out.formN (by omega)
       subst eA
       obtain ⟨p, hp, hcell0⟩ := hat ix hix
       clear hat
       have hxP : X[ix]? = some P := by
        have h1 : ix < X.length := by have := HLEN.out;omega
        rw [hP, List.getD_eq_getElem?_getD, List.getElem?_eq_getElem h1]
        rfl
       have hrowP := (HRA.out.left HLEN.out).row ix p P hp hxP
       have hPn := hrowP.len
       have HP := Aside0.mk hp
       have HROWP := Aside0.mk hrowP
       clear hP hp hxP hrowP
       subst hPn
       have c1b0 : decide ((ix : Int) < 0) = false := decide_eq_false (by omega)
       obtain ⟨pv, hpv⟩ : ∃ pv, pv = sv P.length p := ⟨_, rfl⟩
       obtain ⟨A11, c11, hpv2⟩ : ∃ A11 c11, pv = .slice A11 P.length c11 := ⟨_, _, hpv⟩
       have hcell : wr.cell? ⟨g, ix, none⟩ = some (.slice A11 P.length c11) := by rw [hcell0, ← hpv2, hpv];rfl
       have HPV := Aside0.mk (hpv2.symm.trans hpv)
       have HGB := Aside0.mk hgb
       clear hcell0 hpv hpv2 hgb
       go_wp2_with fail
       refine (H106.out).mono ?_
       rintro e W2 ⟨rfl, hdr⟩
       have HK2 := Aside0.mk (drawn_kept hdr (fun _ => False))
       have HB2 := Aside0.mk (drawn_below hdr HB.out)
       have HCB := Aside0.mk (drawn_cell hdr (cell_new _ _ _))
       have hcell2 : W2.cell? ⟨g, ix, none⟩ = some (.slice A11 P.length c11) := cell_kept hcell HK2.out (fun h => h)
       clear hcell hdr
       have hix3 : ix + 1 ≤ ps.length := hix
       go_wp2_with fail
       clear hcell2 hix3 c1b0
       refine (delete_one w.heap.size P.length g c5 ix ps ps.length W2 (HSP.out.kept HK2.out (fun _ _ h => h)) hix).mono ?_
       rintro e W3 ⟨rfl, hsp3, hk3, hb3⟩
       obtain ⟨ps1, hps1⟩ : ∃ ps1, ps1 = ps.eraseIdx ix := ⟨_, rfl⟩
       rw [← hps1] at hsp3 ⊢
       have hnd3 := nodup_erase HP.out HND.out
       rw [← hps1] at hnd3
       have HND3 := Aside0.mk hnd3
       have HND4 := Aside0.mk (perm_move HP.out HND.out)
       rw [← hps1] at HND4
       have hmem : ∀ q ∈ ps ++ qs, ¬ q.1 = g := fun q hq e_ => by
        obtain ⟨x_, hx_⟩ := HRA.out.mem hq
        exact HSP.out.apart hx_ (by rw [e_];rfl)
       have hra2 := HRA.out.kept HK2.out (fun _ _ h => h)
       have hra3 : RowsAre W3 w.heap.size P.length (ps1 ++ qs) (X.eraseIdx ix ++ Y) := by
        have h1 := (hra2.kept hk3 hmem)
        rw [hps1]
        exact ((h1.left HLEN.out).erase ix).append (h1.right HLEN.out)
       have hrp3 : RowIs W3 w.heap.size P.length p P := (HROWP.out.kept HK2.out (fun h => h)).kept hk3 (hmem p (List.mem_append_left _ (List.mem_of_getElem? HP.out)))
       have hso3 : Spine W3 w.heap.size P.length (.slice A8 qs.length c8) qs := (HSO.out.kept HK2.out (fun _ _ h => h)).kept hk3 (fun k_ hk_ e_ => HVV.out g rfl (by rw [hk_, e_]))
       have hB_ : wr.heap.size ≠ g := fun e_ => by
        have := HSP.out.lt g rfl
        omega
       have hcb3 : W3.cell? ⟨wr.heap.size, 0, none⟩ = some (.int .i64 (c : Int)) := cell_kept HCB.out hk3 hB_
       have hbb : ∀ q ∈ ps ++ qs, q.1 < wr.heap.size := fun q hq => by
        obtain ⟨x_, hx_⟩ := HRA.out.mem hq
        exact hx_.lt
       have hbb3 : ∀ q ∈ ps1 ++ qs, ¬ wr.heap.size = q.1 := fun q hq e_ => by
        have := hbb q (by
         rcases List.mem_append.1 hq with h|h
         ·rw [hps1] at h
          exact List.mem_append_left _ (List.mem_of_mem_eraseIdx h)
         ·exact List.mem_append_right _ h)
        omega
       have HRA3 := Aside0.mk hra3
       have HRP3 := Aside0.mk hrp3
       have HSP3 := Aside0.mk hsp3
       have HSO3 := Aside0.mk hso3
       have HCB3 := Aside0.mk hcb3
       have HBB3 := Aside0.mk hbb3
       have HB3 := Aside0.mk (hb3 w HB2.out HGB.out)
       have HVV3 : Aside0 (∀ k_, (Value.slice (some ⟨g, 0, none⟩) ps1.length c5).ownBlock = some k_ → (Value.slice A8 qs.length c8).ownBlock ≠ some k_) := ⟨HVV.out⟩
       have HPS3 : Aside0 (ps1.length = (X.eraseIdx ix).length) := ⟨by rw [hps1, List.length_eraseIdx, List.length_eraseIdx, HLEN.out]⟩
       have hp1 : ps1.length < 1000000 := by rw [hps1, List.length_eraseIdx, if_pos hix];omega
       have hq1 : qs.length < 1000000 := by omega
       obtain ⟨wc_, ew_⟩ : ∃ x : World, x = wr := ⟨_, rfl⟩
       subst ew_
       clear hsp3 hk3 hb3 hps1 hnd3 hmem hra2 hra3 hrp3 hso3 hB_ hcb3 hbb hbb3 HSP HSO HRA HND HVV HB HK2 HB2 HCB HXC H106 AT HLEN HCAP HROWP HGB
       go_wp2
       go_loopg [50] 3 (fun kq v50 w' => ∃ t : Nat, v50 = .int .i64 (t : Int) ∧ Aside0 (t ≤ 2 ∧ kq + t = 3) ∧ Aside0 (RowsAre w' w.heap.size P.length (ps1 ++ qs) (mix (X.eraseIdx ix ++ Y) (X2 ++ Y2) (off ps1.length qs.length t))) ∧ Aside0 (Kept W3 w' (fun k_ => ∃ p ∈ ps1 ++ qs, k_ = p.1)) ∧ Aside0 (Below w.heap.size w w'))
       case atStart => exact ⟨0, by first|rfl|(simp;done), ⟨by omega, by omega⟩, ⟨by rw [show off ps1.length qs.length 0 = 0 from rfl, mix_zero];exact HRA3.out⟩, ⟨Kept.refl _ _⟩, HB3⟩
       case round =>
        obtain ⟨t, rfl, HT, HRA, HK, HB⟩ := hrel
        have hspr := HSP3.out.kept HK.out (fun k_ hk_ ⟨p_, hp_, e_⟩ => by
         obtain ⟨x_, hx_⟩ := HRA3.out.mem hp_
         exact HSP3.out.apart hx_ (by rw [hk_, e_]))
        have hsor := HSO3.out.kept HK.out (fun k_ hk_ ⟨p_, hp_, e_⟩ => by
         obtain ⟨x_, hx_⟩ := HRA3.out.mem hp_
         exact HSO3.out.apart hx_ (by rw [hk_, e_]))
        have HSPR := Aside0.mk hspr
        have HSOR := Aside0.mk hsor
        clear hspr hsor
        by_cases ht0 : t = 0
        ·subst ht0
         have hidx := index_left (some ⟨g, 0, none⟩) A8 ps1.length qs.length c5 c8
         go_wp2
         clear hidx
         go_loopg [55] (ps1.length + 1) (fun kq v55 w' => ∃ j : Nat, v55 = .int .i64 (j : Int) ∧ Aside0 (j ≤ ps1.length ∧ kq + j = ps1.length + 1) ∧ Aside0 (RowsAre w' w.heap.size P.length (ps1 ++ qs) (mix (X.eraseIdx ix ++ Y) (X2 ++ Y2) (0 + j))) ∧ Aside0 (Kept W3 w' (fun k_ => ∃ p ∈ ps1 ++ qs, k_ = p.1)) ∧ Aside0 (Below w.heap.size w w'))
         case atStart => exact ⟨0, by first|rfl|(simp;done), ⟨by omega, by omega⟩, ⟨HRA.out⟩, HK, HB⟩
         case round =>
          clear HRA HK HB HSPR HSOR
          obtain ⟨j, rfl, HJ, HRA, HK, HB⟩ := hrel
          by_cases hj : j < ps1.length
          ·have hspj := HSP3.out.kept HK.out (fun k_ hk_ ⟨p_, hp_, e_⟩ => by
            obtain ⟨x_, hx_⟩ := HRA3.out.mem hp_
            exact HSP3.out.apart hx_ (by rw [hk_, e_]))
           obtain ⟨g2, e2, _, hat⟩ := hspj.formN (by omega)
           cases e2
           obtain ⟨q, hq, hcellq⟩ := hat j hj
           clear hat hspj
           have hqa : (ps1 ++ qs)[0 + j]? = some q := by rw [Nat.zero_add, List.getElem?_append_left hj];exact hq
           obtain ⟨x, hx, hrow⟩ := HRA.out.get hqa
           have hxx : (X.eraseIdx ix ++ Y)[0 + j]? = some x := by
            rw [mix_get _ _ _ _ HZ.out.1, if_neg (by omega)] at hx
            exact hx
           obtain ⟨y, hy, hf⟩ := HZ.out.2 _ x hxx
           clear hx hxx hq
           obtain ⟨ws_, es_⟩ : ∃ z : World, z = wr := ⟨_, rfl⟩
           subst es_
           obtain ⟨a9, ha9⟩ : ∃ a9 : Int, a9 = (c : Int) := ⟨_, rfl⟩
           have hu : (Value.slice (some ⟨q.1, 0, none⟩) x.length q.2) = sv P.length q := by rw [hrow.len];rfl
           have hcellu : ws_.cell? ⟨g, j, none⟩ = some (.slice (some ⟨q.1, 0, none⟩) x.length q.2) := by rw [hu];exact hcellq
           have HU := Aside0.mk hu
           obtain ⟨P15_, HP15⟩ : ∃ P15_ : Nat → Prop, Aside0 (∀ k_, P15_ k_ ↔ k_ = q.1) := ⟨fun k_ => k_ = q.1, ⟨fun _ => Iff.rfl⟩⟩
           have hqm : q ∈ ps1 ++ qs := List.mem_of_getElem? hqa
           have HO15 : Aside0 (Kd.R (Kd.int .i64) 3 ws_ w.heap.size (fun k_ => (P15_ k_ ∨ ws_.heap.size ≤ k_)) (.slice (some ⟨q.1, 0, none⟩) x.length q.2) x) := ⟨by rw [hu];exact Kd.R_mono hrow (fun k_ hk => .inl ((HP15.out k_).2 hk))⟩
           have HKS : Aside0 (∀ w', Kept ws_ w' (fun k_ => P15_ k_) → Kept W3 w' (fun k_ => ∃ p ∈ ps1 ++ qs, k_ = p.1)) := ⟨fun w' hk => Kept.then_ HK.out hk (fun k_ hs_ => .inl ⟨q, hqm, (HP15.out k_).1 hs_⟩)⟩
           have HR11 : Aside0 (∀ W_, Kept ws_ W_ (fun k_ => P15_ k_) → Kd.C (Kd.int .i64) W_ A11 P.length P) := ⟨fun W_ hk => by
            have h1 := HRP3.out.kept (HKS.out W_ hk) (fun ⟨p_, hp_, e_⟩ => HND3.out.2 p_ hp_ e_.symm)
            unfold RowIs at h1
            rw [← HPV.out] at h1
            exact (Kd.R_reads' h1).2.2⟩
           have HCBr : Aside0 (∀ W_, Kept ws_ W_ (fun k_ => P15_ k_) → W_.cell? ⟨wc_.heap.size, 0, none⟩ = some (.int .i64 a9)) := ⟨fun W_ hk => by
            rw [ha9]
            exact cell_kept HCB3.out (HKS.out W_ hk) (fun ⟨p_, hp_, e_⟩ => HBB3.out p_ hp_ e_)⟩
           have hcb : ws_.cell? ⟨wc_.heap.size, 0, none⟩ = some (.int .i64 a9) := HCBr.out ws_ (Kept.refl _ _)
           have HSTEP : Aside0 (∀ w', Kept ws_ w' (fun k_ => P15_ k_) → RowIs w' w.heap.size P.length q y → RowsAre w' w.heap.size P.length (ps1 ++ qs) (mix (X.eraseIdx ix ++ Y) (X2 ++ Y2) (0 + (j + 1)))) := ⟨fun w' hk hr => RowsAre.step HZ.out.1 HRA.out HND3.out.1 hqa hy (hk.mono fun k_ h_ => (HP15.out k_).1 h_) hr⟩
           have HKO := HK
           clear HK
           have HK := Aside0.mk (Kept.refl ws_ (fun k_ => P15_ k_))
           have H : (if 0 ≤ a9 then (if a9 < (x.length : Int) then (if (rd x a9) = 0 then (some x) else (impl_reduceAny.l0 k a9 P x (rd x a9) (x.length : Int) 0)) else (none)) else (none)) = some y := by rw [ha9];exact hf
           clear hf ha9 hu hcellq hrow hqa hy hqm HRA
           by_cases c17 : 0 ≤ a9
           ·rw [if_pos c17] at H
            have c17b0 : decide (0 ≤ a9) = true := decide_eq_true c17
            clear c17
            by_cases c18 : a9 < (x.length : Int)
            ·rw [if_pos c18] at H
             have c18b0 : decide (a9 < (x.length : Int)) = true := decide_eq_true c18
             clear c18
             by_cases c19 : (rd x a9) = 0
             ·rw [if_pos c19] at H
              have c19b0 : ((rd x a9) == 0) = true := beq_iff_eq.mpr c19
              have c19b1 : ((rd x a9) != 0) = false := bne_eq_false_iff_eq.mpr c19
              clear c19
              obtain rfl := Option.some.inj H
              obtain ⟨Ao20, co20, eo20⟩ := Kd.R_slice HO15.out
              cases eo20
              have p149 : 0 ≤ (a9 : Int) := of_decide_eq_true (by first|(with_reducible assumption)|assumption)
              have q149 : a9 < (x.length : Int) := of_decide_eq_true (by first|(with_reducible assumption)|assumption)
              obtain ⟨ad149, e149, hx149_0⟩ := Kd.at_int (Kd.R_reads' HO15.out).2.2 a9 p149 q149
              cases e149
              (first|simp only [add_plain] at hx149_0|skip)
              replace p149 := eq_true p149
              replace q149 := eq_true q149
              go_wp2
              go_roundg (ps1.length - j)
              case measure => have := HJ.out;omega
              case rel => exact ⟨j + 1, by first|go_num|rfl|(simp;done)|(simp [*];done), ⟨by omega, by omega⟩, ⟨HSTEP.out _ (Kept.refl _ _) (by show Kd.R (Kd.int .i64) 3 _ _ _ (sv P.length q) _;rw [← HU.out];exact Kd.R_reok rfl HO15.out (fun k_ e_ => by rw [HU.out] at e_;exact (Option.some.inj e_).symm))⟩, HKO, HB⟩
             ·rw [if_neg c19] at H
              have c19b0 : ((rd x a9) == 0) = false := beq_eq_false_iff_ne.mpr c19
              have c19b1 : ((rd x a9) != 0) = true := bne_iff_ne.mpr c19
              have H' := Aside0.mk H
              clear H
              obtain ⟨Ao21, co21, eo21⟩ := Kd.R_slice HO15.out
              cases eo21
              have p149 : 0 ≤ (a9 : Int) := of_decide_eq_true (by first|(with_reducible assumption)|assumption)
              have q149 : a9 < (x.length : Int) := of_decide_eq_true (by first|(with_reducible assumption)|assumption)
              obtain ⟨ad149, e149, hx149_0⟩ := Kd.at_int (Kd.R_reads' HO15.out).2.2 a9 p149 q149
              cases e149
              (first|simp only [add_plain] at hx149_0|skip)
              replace p149 := eq_true p149
              replace q149 := eq_true q149
              go_wp2
              go_loopg [67] k (fun kq v67 w' => ∃ (x15_1 : List Int) (x67_1 : Int), v67 = .int .i64 x67_1 ∧ Aside0 (impl_reduceAny.l0 kq a9 P x15_1 (rd x a9) (x.length : Int) x67_1 = some y) ∧ Aside0 (kq ≤ k) ∧ Aside0 (Kd.R (Kd.int .i64) 3 w' w.heap.size (fun k_ => (P15_ k_ ∨ ws_.heap.size ≤ k_)) (.slice (some (⟨q.1, 0, none⟩ : Addr)) x.length q.2) x15_1) ∧ Aside0 (Kept ws_ w' (fun k_ => P15_ k_)) ∧ Aside0 (Below w.heap.size w w'))
              case atStart => exact ⟨(x), (0), (by first|rfl|(simp;done)|(simp [*];done)), H', ⟨Nat.le_refl _⟩, ⟨by (with_reducible repeat (first|apply Kd.R_alloc|apply Kd.R_drewN|apply Kd.R_drew));exact HO15.out⟩, ⟨by repeat (first|(with_reducible first|exact HK.out|apply Kept.alloc|apply Kept.drewN|apply Kept.drew)|exact HK.out)⟩, ⟨by repeat (first|(with_reducible first|exact HB.out|apply below_alloc|apply pw_below_drewN|apply below_drew1)|exact HB.out)⟩⟩
              case round =>
               clear H'
               try clear c1
               try clear p1
               try clear q1
               try clear hx1
               try clear p2
               try clear c7
               try clear c11
               try clear p14
               try clear q14
               try clear hx14
               try clear c17
               try clear c17b0
               try clear c18
               try clear c18b0
               try clear c19
               try clear c19b0
               try clear c19b1
               try clear hx149_0
               try clear p149
               try clear q149
               obtain ⟨x15_1, x67_1, rfl, HA, HK1, HO_15, HK, HB⟩ := hrel
               have hl15_1 := (Kd.R_reads' HO_15.out).1
               rw [hl15_1] at HO_15
               (try simp only [hl15_1])
               cases gk with
              |zero => exact absurd HA.out (by simp [impl_reduceAny.l0])
              |succ k1 =>
                have H := HA.out
                clear HA
                simp only [impl_reduceAny.l0] at H
                by_cases c22 : x67_1 < (x.length : Int)
                ·rw [if_pos c22] at H
                 have c22b0 : decide (x67_1 < (x.length : Int)) = true := decide_eq_true c22
                 clear c22
                 by_cases c23 : 0 ≤ x67_1
                 ·rw [if_pos c23] at H
                  have c23b0 : decide (0 ≤ x67_1) = true := decide_eq_true c23
                  clear c23
                  by_cases c24 : x67_1 < (x15_1.length : Int)
                  ·rw [if_pos c24] at H
                   have c24b0 : decide (x67_1 < (x15_1.length : Int)) = true := decide_eq_true c24
                   clear c24
                   by_cases c25 : 0 ≤ a9
                   ·rw [if_pos c25] at H
                    have c25b0 : decide (0 ≤ a9) = true := decide_eq_true c25
                    clear c25
                    by_cases c26 : a9 < (P.length : Int)
                    ·rw [if_pos c26] at H
                     have c26b0 : decide (a9 < (P.length : Int)) = true := decide_eq_true c26
                     clear c26
                     by_cases c27 : x67_1 < (P.length : Int)
                     ·rw [if_pos c27] at H
                      have c27b0 : decide (x67_1 < (P.length : Int)) = true := decide_eq_true c27
                      clear c27
                      obtain ⟨y153, hy153⟩ : ∃ y_ : List Int, y_ = (x15_1.set (x67_1 : Int).toNat (wrap64 ((wrap64 ((rd x15_1 x67_1) * (rd P a9))) - (wrap64 ((rd P x67_1) * (rd x a9)))))) := ⟨_, rfl⟩
                      replace H : (impl_reduceAny.l0 k1 a9 P y153 (rd x a9) (x.length : Int) (wrap64 (x67_1 + 1))) = some y := by first|(rw [hy153];with_reducible exact H)|(have H2_ := (Option.bind_some _ _).symm.trans H;rw [hy153];with_reducible exact H2_)|(have H2_ := (Option.bind_some _ _).symm.trans H;with_reducible exact H2_)|with_reducible exact H|(rw [hy153];exact H)|exact H
                      have Ny153 := Aside0.mk hy153
                      clear hy153
                      have H' := Aside0.mk H
                      clear H
                      try go_wp2
                      have n0_ := Aside0.mk (Kd.R_drew HO_15.out)
                      have n1_ := Aside0.mk (Kept.drew HK.out)
                      have n2_ := Aside0.mk (below_drew1 HB.out)
                      clear HO_15
                      clear HK
                      clear HB
                      have HO_15 := n0_
                      have HK := n1_
                      have HB := n2_
                      clear n0_ n1_ n2_
                      have p150 : 0 ≤ (x67_1 : Int) := of_decide_eq_true (by first|(with_reducible assumption)|assumption)
                      have q150 : x67_1 < (x15_1.length : Int) := of_decide_eq_true (by first|(with_reducible assumption)|assumption)
                      obtain ⟨ad150, e150, hx150_0⟩ := Kd.at_int (Kd.R_reads' HO_15.out).2.2 x67_1 p150 q150
                      cases e150
                      replace p150 := eq_true p150
                      replace q150 := eq_true q150
                      have p151 : 0 ≤ (a9 : Int) := of_decide_eq_true (by first|(with_reducible assumption)|assumption)
                      have q151 : a9 < (P.length : Int) := of_decide_eq_true (by first|(with_reducible assumption)|assumption)
                      obtain ⟨ad151, e151, hx151_0⟩ := Kd.at_int (Kd.C_kept_now HR11.out HK.out) a9 p151 q151
                      have hw151_0 := hx151_0
                      cases e151
                      replace p151 := eq_true p151
                      replace q151 := eq_true q151
                      have p152 : 0 ≤ (x67_1 : Int) := of_decide_eq_true (by first|(with_reducible assumption)|assumption)
                      have q152 : x67_1 < (P.length : Int) := of_decide_eq_true (by first|(with_reducible assumption)|assumption)
                      obtain ⟨ad152, e152, hx152_0⟩ := Kd.at_int (Kd.C_kept_now HR11.out HK.out) x67_1 p152 q152
                      have hw152_0 := hx152_0
                      obtain rfl : ad151 = ad152 := (by injection e152)
                      replace p152 := eq_true p152
                      replace q152 := eq_true q152
                      have p28 : 0 ≤ (x67_1 : Int) := of_decide_eq_true (by first|(with_reducible assumption)|assumption)
                      have q28 : (x67_1 : Int) < ((x15_1.length : Int) : Int) := of_decide_eq_true (by first|(with_reducible assumption)|assumption)
                      obtain ⟨go28, co28, eo28, gb28, gl28, cl28, HG28⟩ := Kd.R_form HO_15.out (by omega)
                      (first|cases eo28|(injection eo28 with ea_ en_ ec_;(first|subst ea_|(injection ea_ with ea_;subst ea_));subst ec_;clear en_))
                      have GB28 := Aside0.mk gb28
                      have GG28 := Aside0.mk HG28
                      clear gb28 gl28 HG28
                      have HMgo28 := Aside0.mk (show (P15_ q.1 ∨ ws_.heap.size ≤ q.1) from (HO_15.out.1 _ rfl))
                      (first|simp only [add_plain] at hx149_0|skip)
                      (first|simp only [add_plain] at hx150_0|skip)
                      obtain ⟨hx28_0, hf28_0⟩ := Kd.R_celln 0 HO_15.out (x67_1 : Int) p28 q28
                      replace p28 := eq_true p28
                      replace q28 := eq_true q28
                      have HP30 := Kd.R_putn HO_15.out (x67_1 : Int) (wrap64 ((wrap64 ((rd x15_1 x67_1) * (rd P a9))) - (wrap64 ((rd P x67_1) * (rd x a9)))))
                      rw [← Ny153.out] at HP30
                      have HQ30 := Aside0.mk HP30
                      clear HP30
                      refine start_ (n := 20) (S := fun w' => w'.cell? ⟨q.1, (x67_1).toNat, none⟩ = some (.int .i64 (rd x15_1 x67_1)) ∧ w'.cell? (ad151.add (a9).toNat) = some (.int .i64 (rd P a9)) ∧ w'.cell? (ad151.add (x67_1).toNat) = some (.int .i64 (rd P x67_1)) ∧ w'.cell? ⟨wc_.heap.size, 0, none⟩ = some (.int .i64 a9)) (ds := [19]) #[false, false, false, false, false, false, false, false, false, false, false, false, false, false, false, false, false, false, false, false] (by kernel_rfl) rfl rfl ⟨hx150_0, (Kd.foot_int (HR11.out _ (by repeat (first|exact HK.out|apply Kept.alloc|apply Kept.drewN|apply Kept.drew|refine Kept.setCell ?_ HMgo28.out _))) a9 (of_eq_true p151) (of_eq_true q151)), (Kd.foot_int (HR11.out _ (by repeat (first|exact HK.out|apply Kept.alloc|apply Kept.drewN|apply Kept.drew|refine Kept.setCell ?_ HMgo28.out _))) x67_1 (of_eq_true p152) (of_eq_true q152)), (HCBr.out _ (by repeat (first|exact HK.out|apply Kept.alloc|apply Kept.drewN|apply Kept.drew|refine Kept.setCell ?_ HMgo28.out _)))⟩ (fun hHeld => ?_);refine with_tabW impl_reduceAny.tab26 impl_reduceAny.bits26 (fun HT_ HW_ => ?_)
                      generalize wr.drew = w29 at HO_15 HK HB GG28 HQ30 hf28_0 hx150_0 hx151_0 hx152_0 hx28_0 hHeld ⊢
                      refine pure_ (i := 0) (N := some 70) (v := ?_) (a' := ?_) #[true, false, false, false, false, false, false, false, false, false, false, false, false, false, false, false, false, false, false, false] rfl rfl (any_of HT_.out (by kernel_rfl)) (fun _ _ _ h => h) (Or.inl ⟨by rfl, ?_⟩) ?_ ?_
                      rotate_left
                      ·intro w'
                       go_simp
                       with_reducible rfl
                      rotate_left
                      ·simp only [Act.put, List.setIfInBounds_toArray, List.set_cons_zero, List.set_cons_succ, i64_w, i32_w]
                       rfl
                      refine pure_ (i := 1) (N := some 71) (v := ?_) (a' := ?_) #[true, true, false, false, false, false, false, false, false, false, false, false, false, false, false, false, false, false, false, false] rfl rfl (any_of HT_.out (by kernel_rfl)) (fun _ _ _ h => h) (Or.inl ⟨by rfl, ?_⟩) ?_ ?_
                      rotate_left
                      ·intro w'
                       go_simp
                       with_reducible rfl
                      rotate_left
                      ·simp only [Act.put, List.setIfInBounds_toArray, List.set_cons_zero, List.set_cons_succ, i64_w, i32_w]
                       rfl
                      refine pure_ (i := 2) (N := some 72) (v := ?_) (a' := ?_) #[true, true, true, false, false, false, false, false, false, false, false, false, false, false, false, false, false, false, false, false] rfl rfl (any_of HT_.out (by kernel_rfl)) (fun _ _ _ h => h) (Or.inl ⟨by rfl, ?_⟩) ?_ ?_
                      rotate_left
                      ·intro w'
                       go_simp
                       with_reducible rfl
                      rotate_left
                      ·simp only [Act.put, List.setIfInBounds_toArray, List.set_cons_zero, List.set_cons_succ, i64_w, i32_w]
                       rfl
                      refine pure_ (i := 3) (N := some 73) (v := ?_) (a' := ?_) #[true, true, true, true, false, false, false, false, false, false, false, false, false, false, false, false, false, false, false, false] rfl rfl (any_of HT_.out (by kernel_rfl)) (fun _ _ _ h => h) (Or.inl ⟨by rfl, ?_⟩) ?_ ?_
                      rotate_left
                      ·intro w'
                       go_simp
                       with_reducible rfl
                      rotate_left
                      ·simp only [Act.put, List.setIfInBounds_toArray, List.set_cons_zero, List.set_cons_succ, i64_w, i32_w]
                       rfl
                      refine pure_ (i := 4) (N := some 74) (v := ?_) (a' := ?_) #[true, true, true, true, true, false, false, false, false, false, false, false, false, false, false, false, false, false, false, false] rfl rfl (any_of HT_.out (by kernel_rfl)) (fun _ _ _ h => h) (Or.inl ⟨by rfl, ?_⟩) ?_ ?_
                      rotate_left
                      ·intro w'
                       go_simp
                       with_reducible rfl
                      rotate_left
                      ·simp only [Act.put, List.setIfInBounds_toArray, List.set_cons_zero, List.set_cons_succ, i64_w, i32_w]
                       rfl
                      refine pure_ (i := 6) (N := some 76) (v := ?_) (a' := ?_) #[true, true, true, true, true, false, true, false, false, false, false, false, false, false, false, false, false, false, false, false] rfl rfl (any_of HT_.out (by kernel_rfl)) (fun _ _ _ h => h) (Or.inl ⟨by rfl, ?_⟩) ?_ ?_
                      rotate_left
                      ·intro w'
                       go_simp
                       with_reducible rfl
                      rotate_left
                      ·simp only [Act.put, List.setIfInBounds_toArray, List.set_cons_zero, List.set_cons_succ, i64_w, i32_w]
                       rfl
                      refine take_ (i := 7) (N := some 77) (v := ?_) (a' := ?_) #[true, true, true, true, true, false, true, true, false, false, false, false, false, false, false, false, false, false, false, false] rfl rfl (take_ofW HT_.out HW_.out (by kernel_rfl)) (fun _ _ _ h => h) (Or.inl ⟨by rfl, ?_⟩) hHeld ?_ ?_
                      rotate_left
                      ·rintro w' ⟨s0, s1, s2, s3⟩
                       go_simp
                       with_reducible rfl
                      rotate_left
                      ·simp only [Act.put, List.setIfInBounds_toArray, List.set_cons_zero, List.set_cons_succ, i64_w, i32_w]
                       rfl
                      refine pure_ (i := 8) (N := some 78) (v := ?_) (a' := ?_) #[true, true, true, true, true, false, true, true, true, false, false, false, false, false, false, false, false, false, false, false] rfl rfl (any_of HT_.out (by kernel_rfl)) (fun _ _ _ h => h) (Or.inl ⟨by rfl, ?_⟩) ?_ ?_
                      rotate_left
                      ·intro w'
                       go_simp
                       with_reducible rfl
                      rotate_left
                      ·simp only [Act.put, List.setIfInBounds_toArray, List.set_cons_zero, List.set_cons_succ, i64_w, i32_w]
                       rfl
                      refine pure_ (i := 11) (N := some 81) (v := ?_) (a' := ?_) #[true, true, true, true, true, false, true, true, true, false, false, true, false, false, false, false, false, false, false, false] rfl rfl (any_of HT_.out (by kernel_rfl)) (fun _ _ _ h => h) (Or.inl ⟨by rfl, ?_⟩) ?_ ?_
                      rotate_left
                      ·intro w'
                       go_simp
                       with_reducible rfl
                      rotate_left
                      ·simp only [Act.put, List.setIfInBounds_toArray, List.set_cons_zero, List.set_cons_succ, i64_w, i32_w]
                       rfl
                      refine pure_ (i := 12) (N := some 82) (v := ?_) (a' := ?_) #[true, true, true, true, true, false, true, true, true, false, false, true, true, false, false, false, false, false, false, false] rfl rfl (any_of HT_.out (by kernel_rfl)) (fun _ _ _ h => h) (Or.inl ⟨by rfl, ?_⟩) ?_ ?_
                      rotate_left
                      ·intro w'
                       go_simp
                       with_reducible rfl
                      rotate_left
                      ·simp only [Act.put, List.setIfInBounds_toArray, List.set_cons_zero, List.set_cons_succ, i64_w, i32_w]
                       rfl
                      refine pure_ (i := 13) (N := some 83) (v := ?_) (a' := ?_) #[true, true, true, true, true, false, true, true, true, false, false, true, true, true, false, false, false, false, false, false] rfl rfl (any_of HT_.out (by kernel_rfl)) (fun _ _ _ h => h) (Or.inl ⟨by rfl, ?_⟩) ?_ ?_
                      rotate_left
                      ·intro w'
                       go_simp
                       with_reducible rfl
                      rotate_left
                      ·simp only [Act.put, List.setIfInBounds_toArray, List.set_cons_zero, List.set_cons_succ, i64_w, i32_w]
                       rfl
                      refine pure_ (i := 15) (N := some 85) (v := ?_) (a' := ?_) #[true, true, true, true, true, false, true, true, true, false, false, true, true, true, false, true, false, false, false, false] rfl rfl (any_of HT_.out (by kernel_rfl)) (fun _ _ _ h => h) (Or.inl ⟨by rfl, ?_⟩) ?_ ?_
                      rotate_left
                      ·intro w'
                       go_simp
                       with_reducible rfl
                      rotate_left
                      ·simp only [Act.put, List.setIfInBounds_toArray, List.set_cons_zero, List.set_cons_succ, i64_w, i32_w]
                       rfl
                      refine take_ (i := 5) (N := some 75) (v := ?_) (a' := ?_) #[true, true, true, true, true, true, true, true, true, false, false, true, true, true, false, true, false, false, false, false] rfl rfl (take_ofW HT_.out HW_.out (by kernel_rfl)) (fun _ _ _ h => h) (Or.inl ⟨by rfl, ?_⟩) hHeld ?_ ?_
                      rotate_left
                      ·rintro w' ⟨s0, s1, s2, s3⟩
                       go_simp
                       with_reducible rfl
                      rotate_left
                      ·simp only [Act.put, List.setIfInBounds_toArray, List.set_cons_zero, List.set_cons_succ, i64_w, i32_w]
                       rfl
                      refine take_ (i := 9) (N := some 79) (v := ?_) (a' := ?_) #[true, true, true, true, true, true, true, true, true, true, false, true, true, true, false, true, false, false, false, false] rfl rfl (take_ofW HT_.out HW_.out (by kernel_rfl)) (fun _ _ _ h => h) (Or.inl ⟨by rfl, ?_⟩) hHeld ?_ ?_
                      rotate_left
                      ·rintro w' ⟨s0, s1, s2, s3⟩
                       go_simp
                       with_reducible rfl
                      rotate_left
                      ·simp only [Act.put, List.setIfInBounds_toArray, List.set_cons_zero, List.set_cons_succ, i64_w, i32_w]
                       rfl
                      refine pure_ (i := 10) (N := some 80) (v := ?_) (a' := ?_) #[true, true, true, true, true, true, true, true, true, true, true, true, true, true, false, true, false, false, false, false] rfl rfl (any_of HT_.out (by kernel_rfl)) (fun _ _ _ h => h) (Or.inl ⟨by rfl, ?_⟩) ?_ ?_
                      rotate_left
                      ·intro w'
                       go_simp
                       with_reducible rfl
                      rotate_left
                      ·simp only [Act.put, List.setIfInBounds_toArray, List.set_cons_zero, List.set_cons_succ, i64_w, i32_w]
                       rfl
                      refine take_ (i := 14) (N := some 84) (v := ?_) (a' := ?_) #[true, true, true, true, true, true, true, true, true, true, true, true, true, true, true, true, false, false, false, false] rfl rfl (take_ofW HT_.out HW_.out (by kernel_rfl)) (fun _ _ _ h => h) (Or.inl ⟨by rfl, ?_⟩) hHeld ?_ ?_
                      rotate_left
                      ·rintro w' ⟨s0, s1, s2, s3⟩
                       go_simp
                       with_reducible rfl
                      rotate_left
                      ·simp only [Act.put, List.setIfInBounds_toArray, List.set_cons_zero, List.set_cons_succ, i64_w, i32_w]
                       rfl
                      refine pure_ (i := 16) (N := some 86) (v := ?_) (a' := ?_) #[true, true, true, true, true, true, true, true, true, true, true, true, true, true, true, true, true, false, false, false] rfl rfl (any_of HT_.out (by kernel_rfl)) (fun _ _ _ h => h) (Or.inl ⟨by rfl, ?_⟩) ?_ ?_
                      rotate_left
                      ·intro w'
                       go_simp
                       with_reducible rfl
                      rotate_left
                      ·simp only [Act.put, List.setIfInBounds_toArray, List.set_cons_zero, List.set_cons_succ, i64_w, i32_w]
                       rfl
                      refine pure_ (i := 17) (N := some 87) (v := ?_) (a' := ?_) #[true, true, true, true, true, true, true, true, true, true, true, true, true, true, true, true, true, true, false, false] rfl rfl (any_of HT_.out (by kernel_rfl)) (fun _ _ _ h => h) (Or.inl ⟨by rfl, ?_⟩) ?_ ?_
                      rotate_left
                      ·intro w'
                       go_simp
                       with_reducible rfl
                      rotate_left
                      ·simp only [Act.put, List.setIfInBounds_toArray, List.set_cons_zero, List.set_cons_succ, i64_w, i32_w]
                       rfl
                      refine pure_ (i := 18) (N := some 88) (v := ?_) (a' := ?_) #[true, true, true, true, true, true, true, true, true, true, true, true, true, true, true, true, true, true, true, false] rfl rfl (any_of HT_.out (by kernel_rfl)) (fun _ _ _ h => h) (Or.inl ⟨by rfl, ?_⟩) ?_ ?_
                      rotate_left
                      ·intro w'
                       go_simp
                       with_reducible rfl
                      rotate_left
                      ·simp only [Act.put, List.setIfInBounds_toArray, List.set_cons_zero, List.set_cons_succ, i64_w, i32_w]
                       rfl
                      refine last_ (i := 19) (N := none) #[true, true, true, true, true, true, true, true, true, true, true, true, true, true, true, true, true, true, true, true] rfl rfl (one_of HT_.out (by kernel_rfl)) (by decide) (fun K hK => ?_)
                      refine skip_ (w1 := ?_) (by rfl) rfl ?_ ?_
                      rotate_left
                      ·go_simp
                       rfl
                      refine hK.out _ _ ?_
                      clear hK K
                      refine done_ (done_of HT_.out (by kernel_rfl)) ?_
                      try go_wp2
                      (try simp only [← hl15_1])
                      go_roundg k1
                      case measure => have := HK1.out;omega
                      case rel => exact ⟨(y153), (wrap64 (x67_1 + 1)), (by first|rfl|(simp;done)|(simp [*];done)), H', ⟨by have := HK1.out;omega⟩, ⟨by (try simp only [hl15_1]);(with_reducible repeat (first|apply Kd.R_alloc|apply Kd.R_drewN|apply Kd.R_drew));exact HQ30.out⟩, ⟨by repeat (first|(with_reducible first|exact HK.out|apply Kept.alloc|apply Kept.drewN|apply Kept.drew|refine Kept.setCell ?_ HMgo28.out _)|exact HK.out)⟩, ⟨by repeat (first|(with_reducible first|exact HB.out|apply below_alloc|apply pw_below_drewN|apply below_drew1|refine below_set ?_ GB28.out)|exact HB.out)⟩⟩
                     ·rw [if_neg c27] at H
                      exact absurd H (by simp)
                    ·rw [if_neg c26] at H
                     exact absurd H (by simp)
                   ·rw [if_neg c25] at H
                    exact absurd H (by simp)
                  ·rw [if_neg c24] at H
                   exact absurd H (by simp)
                 ·rw [if_neg c23] at H
                  exact absurd H (by simp)
                ·rw [if_neg c22] at H
                 have c22b0 : decide (x67_1 < (x.length : Int)) = false := decide_eq_false c22
                 have c22b1 : decide (x67_1 < (x15_1.length : Int)) = false := by have h5_ := hl15_1;rw [show (x15_1.length : Int) = (x.length : Int) by omega];exact c22b0
                 clear c22
                 replace H := Option.bind_eq_some_iff.mp H
                 obtain ⟨t154, A310, H⟩ := H
                 replace H : (some t154) = some y := H
                 have A31 := Aside0.mk A310
                 clear A310
                 obtain rfl := Option.some.inj H
                 go_wp2_with (first|((with_reducible refine gate_callee (f := 105) rfl ?_);refine goesL_ (some 91) rfl rfl Try.func105 (by kernel_rfl) rfl #[.slice (some (⟨q.1, 0, none⟩ : Addr)) x15_1.length q.2] rfl (by (try simp only [List.map_toArray, List.map_cons, List.map_nil]);first|done|rfl|(simp only [List.length_drop, List.length_take];rfl)) ?_;(with_reducible refine (impl_tidy.calls k1 (fun k_ => some k_ = (.slice (some (⟨q.1, 0, none⟩ : Addr)) x15_1.length q.2 : Value).ownBlock) (.slice (some (⟨q.1, 0, none⟩ : Addr)) x15_1.length q.2) x15_1 t154 w _ ?side1 ?side2 A31.out).mono ?_);(case side1 => repeat (first|(with_reducible first|exact HB.out|apply below_alloc|apply pw_below_drewN|apply below_drew1)|exact HB.out));(case side2 => exact Kd.R_tight rfl HO_15.out);rintro e w32 ⟨rfl, hy0, hb, hkp⟩;refine ⟨_, rfl, ?_⟩;have n0_ := Aside0.mk (Kd.R_reok rfl hy0 (fun k_ e_ => HO_15.out.1 k_ e_));have n1_ := Aside0.mk (Kept.then_ (S := (fun k_ => P15_ k_)) (by repeat (first|(with_reducible first|exact HK.out|apply Kept.alloc|apply Kept.drewN|apply Kept.drew)|exact HK.out)) hkp (fun k_ hs_ => (fun e_ => (HO_15.out.1 k_ e_.symm)) hs_));have n2_ := Aside0.mk (hb);clear HO_15;clear HK;clear HB;have HO_15 := n0_;have HK := n1_;have HB := n2_;clear n0_ n1_ n2_;(try clear hb);(try clear hkp);(try clear hy0)))
                 go_roundg (ps1.length - j)
                 case measure => have := HJ.out;omega
                 case rel => exact ⟨j + 1, by first|go_num|rfl|(simp;done)|(simp [*];done), ⟨by omega, by omega⟩, ⟨HSTEP.out _ HK.out (by show Kd.R (Kd.int .i64) 3 _ _ _ (sv P.length q) _;rw [← HU.out, hl15_1];exact Kd.R_reok rfl HO_15.out (fun k_ e_ => by have e2_ := e_;(try rw [HU.out] at e2_);exact (Option.some.inj e2_).symm))⟩, ⟨HKS.out _ HK.out⟩, HB⟩
            ·rw [if_neg c18] at H
             exact absurd H (by simp)
           ·rw [if_neg c17] at H
            exact absurd H (by simp)
          ·have hje : ps1.length = j := by have := HJ.out;omega
           clear hje
           go_wp2
           go_roundg (2)
           case measure => have := HT.out;omega
           case rel => exact ⟨0 + 1, by first|rfl|(simp;done)|go_num, ⟨by omega, by omega⟩, ⟨by have h1 := HRA.out;have h2 := HJ.out;rw [show 0 + j = off ps1.length qs.length (0 + 1) by show _ = ps1.length;omega] at h1;exact h1⟩, HK, HB⟩
        ·by_cases ht1 : t = 1
         ·subst ht1
          have hidx := index_right (some ⟨g, 0, none⟩) A8 ps1.length qs.length c5 c8
          go_wp2
          clear hidx
          go_loopg [55] (qs.length + 1) (fun kq v55 w' => ∃ j : Nat, v55 = .int .i64 (j : Int) ∧ Aside0 (j ≤ qs.length ∧ kq + j = qs.length + 1) ∧ Aside0 (RowsAre w' w.heap.size P.length (ps1 ++ qs) (mix (X.eraseIdx ix ++ Y) (X2 ++ Y2) (ps1.length + j))) ∧ Aside0 (Kept W3 w' (fun k_ => ∃ p ∈ ps1 ++ qs, k_ = p.1)) ∧ Aside0 (Below w.heap.size w w'))
          case atStart => exact ⟨0, by first|rfl|(simp;done), ⟨by omega, by omega⟩, ⟨HRA.out⟩, HK, HB⟩
          case round =>
           clear HRA HK HB HSPR HSOR
           obtain ⟨j, rfl, HJ, HRA, HK, HB⟩ := hrel
           by_cases hj : j < qs.length
           ·have hspj := HSO3.out.kept HK.out (fun k_ hk_ ⟨p_, hp_, e_⟩ => by
             obtain ⟨x_, hx_⟩ := HRA3.out.mem hp_
             exact HSO3.out.apart hx_ (by rw [hk_, e_]))
            obtain ⟨g2, e2, _, hat⟩ := hspj.formN (by omega)
            cases e2
            obtain ⟨q, hq, hcellq⟩ := hat j hj
            clear hat hspj
            have hqa : (ps1 ++ qs)[ps1.length + j]? = some q := by rw [List.getElem?_append_right (by omega), Nat.add_sub_cancel_left];exact hq
            obtain ⟨x, hx, hrow⟩ := HRA.out.get hqa
            have hxx : (X.eraseIdx ix ++ Y)[ps1.length + j]? = some x := by
             rw [mix_get _ _ _ _ HZ.out.1, if_neg (by omega)] at hx
             exact hx
            obtain ⟨y, hy, hf⟩ := HZ.out.2 _ x hxx
            clear hx hxx hq
            obtain ⟨ws_, es_⟩ : ∃ z : World, z = wr := ⟨_, rfl⟩
            subst es_
            obtain ⟨a9, ha9⟩ : ∃ a9 : Int, a9 = (c : Int) := ⟨_, rfl⟩
            have hu : (Value.slice (some ⟨q.1, 0, none⟩) x.length q.2) = sv P.length q := by rw [hrow.len];rfl
            have hcellu : ws_.cell? ⟨g2, j, none⟩ = some (.slice (some ⟨q.1, 0, none⟩) x.length q.2) := by rw [hu];exact hcellq
            have HU := Aside0.mk hu
            obtain ⟨P15_, HP15⟩ : ∃ P15_ : Nat → Prop, Aside0 (∀ k_, P15_ k_ ↔ k_ = q.1) := ⟨fun k_ => k_ = q.1, ⟨fun _ => Iff.rfl⟩⟩
            have hqm : q ∈ ps1 ++ qs := List.mem_of_getElem? hqa
            have HO15 : Aside0 (Kd.R (Kd.int .i64) 3 ws_ w.heap.size (fun k_ => (P15_ k_ ∨ ws_.heap.size ≤ k_)) (.slice (some ⟨q.1, 0, none⟩) x.length q.2) x) := ⟨by rw [hu];exact Kd.R_mono hrow (fun k_ hk => .inl ((HP15.out k_).2 hk))⟩
            have HKS : Aside0 (∀ w', Kept ws_ w' (fun k_ => P15_ k_) → Kept W3 w' (fun k_ => ∃ p ∈ ps1 ++ qs, k_ = p.1)) := ⟨fun w' hk => Kept.then_ HK.out hk (fun k_ hs_ => .inl ⟨q, hqm, (HP15.out k_).1 hs_⟩)⟩
            have HR11 : Aside0 (∀ W_, Kept ws_ W_ (fun k_ => P15_ k_) → Kd.C (Kd.int .i64) W_ A11 P.length P) := ⟨fun W_ hk => by
             have h1 := HRP3.out.kept (HKS.out W_ hk) (fun ⟨p_, hp_, e_⟩ => HND3.out.2 p_ hp_ e_.symm)
             unfold RowIs at h1
             rw [← HPV.out] at h1
             exact (Kd.R_reads' h1).2.2⟩
            have HCBr : Aside0 (∀ W_, Kept ws_ W_ (fun k_ => P15_ k_) → W_.cell? ⟨wc_.heap.size, 0, none⟩ = some (.int .i64 a9)) := ⟨fun W_ hk => by
             rw [ha9]
             exact cell_kept HCB3.out (HKS.out W_ hk) (fun ⟨p_, hp_, e_⟩ => HBB3.out p_ hp_ e_)⟩
            have hcb : ws_.cell? ⟨wc_.heap.size, 0, none⟩ = some (.int .i64 a9) := HCBr.out ws_ (Kept.refl _ _)
            have HSTEP : Aside0 (∀ w', Kept ws_ w' (fun k_ => P15_ k_) → RowIs w' w.heap.size P.length q y → RowsAre w' w.heap.size P.length (ps1 ++ qs) (mix (X.eraseIdx ix ++ Y) (X2 ++ Y2) (ps1.length + (j + 1)))) := ⟨fun w' hk hr => RowsAre.step HZ.out.1 HRA.out HND3.out.1 hqa hy (hk.mono fun k_ h_ => (HP15.out k_).1 h_) hr⟩
            have HKO := HK
            clear HK
            have HK := Aside0.mk (Kept.refl ws_ (fun k_ => P15_ k_))
            have H : (if 0 ≤ a9 then (if a9 < (x.length : Int) then (if (rd x a9) = 0 then (some x) else (impl_reduceAny.l0 k a9 P x (rd x a9) (x.length : Int) 0)) else (none)) else (none)) = some y := by rw [ha9];exact hf
            clear hf ha9 hu hcellq hrow hqa hy hqm HRA
            by_cases c17 : 0 ≤ a9
            ·rw [if_pos c17] at H
             have c17b0 : decide (0 ≤ a9) = true := decide_eq_true c17
             clear c17
             by_cases c18 : a9 < (x.length : Int)
             ·rw [if_pos c18] at H
              have c18b0 : decide (a9 < (x.length : Int)) = true := decide_eq_true c18
              clear c18
              by_cases c19 : (rd x a9) = 0
              ·rw [if_pos c19] at H
               have c19b0 : ((rd x a9) == 0) = true := beq_iff_eq.mpr c19
               have c19b1 : ((rd x a9) != 0) = false := bne_eq_false_iff_eq.mpr c19
               clear c19
               obtain rfl := Option.some.inj H
               obtain ⟨Ao20, co20, eo20⟩ := Kd.R_slice HO15.out
               cases eo20
               have p149 : 0 ≤ (a9 : Int) := of_decide_eq_true (by first|(with_reducible assumption)|assumption)
               have q149 : a9 < (x.length : Int) := of_decide_eq_true (by first|(with_reducible assumption)|assumption)
               obtain ⟨ad149, e149, hx149_0⟩ := Kd.at_int (Kd.R_reads' HO15.out).2.2 a9 p149 q149
               cases e149
               (first|simp only [add_plain] at hx149_0|skip)
               replace p149 := eq_true p149
               replace q149 := eq_true q149
               go_wp2
               go_roundg (qs.length - j)
               case measure => have := HJ.out;omega
               case rel => exact ⟨j + 1, by first|go_num|rfl|(simp;done)|(simp [*];done), ⟨by omega, by omega⟩, ⟨HSTEP.out _ (Kept.refl _ _) (by show Kd.R (Kd.int .i64) 3 _ _ _ (sv P.length q) _;rw [← HU.out];exact Kd.R_reok rfl HO15.out (fun k_ e_ => by rw [HU.out] at e_;exact (Option.some.inj e_).symm))⟩, HKO, HB⟩
              ·rw [if_neg c19] at H
               have c19b0 : ((rd x a9) == 0) = false := beq_eq_false_iff_ne.mpr c19
               have c19b1 : ((rd x a9) != 0) = true := bne_iff_ne.mpr c19
               have H' := Aside0.mk H
               clear H
               obtain ⟨Ao21, co21, eo21⟩ := Kd.R_slice HO15.out
               cases eo21
               have p149 : 0 ≤ (a9 : Int) := of_decide_eq_true (by first|(with_reducible assumption)|assumption)
               have q149 : a9 < (x.length : Int) := of_decide_eq_true (by first|(with_reducible assumption)|assumption)
               obtain ⟨ad149, e149, hx149_0⟩ := Kd.at_int (Kd.R_reads' HO15.out).2.2 a9 p149 q149
               cases e149
               (first|simp only [add_plain] at hx149_0|skip)
               replace p149 := eq_true p149
               replace q149 := eq_true q149
               go_wp2
               go_loopg [67] k (fun kq v67 w' => ∃ (x15_1 : List Int) (x67_1 : Int), v67 = .int .i64 x67_1 ∧ Aside0 (impl_reduceAny.l0 kq a9 P x15_1 (rd x a9) (x.length : Int) x67_1 = some y) ∧ Aside0 (kq ≤ k) ∧ Aside0 (Kd.R (Kd.int .i64) 3 w' w.heap.size (fun k_ => (P15_ k_ ∨ ws_.heap.size ≤ k_)) (.slice (some (⟨q.1, 0, none⟩ : Addr)) x.length q.2) x15_1) ∧ Aside0 (Kept ws_ w' (fun k_ => P15_ k_)) ∧ Aside0 (Below w.heap.size w w'))
               case atStart => exact ⟨(x), (0), (by first|rfl|(simp;done)|(simp [*];done)), H', ⟨Nat.le_refl _⟩, ⟨by (with_reducible repeat (first|apply Kd.R_alloc|apply Kd.R_drewN|apply Kd.R_drew));exact HO15.out⟩, ⟨by repeat (first|(with_reducible first|exact HK.out|apply Kept.alloc|apply Kept.drewN|apply Kept.drew)|exact HK.out)⟩, ⟨by repeat (first|(with_reducible first|exact HB.out|apply below_alloc|apply pw_below_drewN|apply below_drew1)|exact HB.out)⟩⟩
               case round =>
                clear H'
                try clear c1
                try clear p1
                try clear q1
                try clear hx1
                try clear p2
                try clear c7
                try clear c11
                try clear p14
                try clear q14
                try clear hx14
                try clear c17
                try clear c17b0
                try clear c18
                try clear c18b0
                try clear c19
                try clear c19b0
                try clear c19b1
                try clear hx149_0
                try clear p149
                try clear q149
                obtain ⟨x15_1, x67_1, rfl, HA, HK1, HO_15, HK, HB⟩ := hrel
                have hl15_1 := (Kd.R_reads' HO_15.out).1
                rw [hl15_1] at HO_15
                (try simp only [hl15_1])
                cases gk with
               |zero => exact absurd HA.out (by simp [impl_reduceAny.l0])
               |succ k1 =>
                 have H := HA.out
                 clear HA
                 simp only [impl_reduceAny.l0] at H
                 by_cases c22 : x67_1 < (x.length : Int)
                 ·rw [if_pos c22] at H
                  have c22b0 : decide (x67_1 < (x.length : Int)) = true := decide_eq_true c22
                  clear c22
                  by_cases c23 : 0 ≤ x67_1
                  ·rw [if_pos c23] at H
                   have c23b0 : decide (0 ≤ x67_1) = true := decide_eq_true c23
                   clear c23
                   by_cases c24 : x67_1 < (x15_1.length : Int)
                   ·rw [if_pos c24] at H
                    have c24b0 : decide (x67_1 < (x15_1.length : Int)) = true := decide_eq_true c24
                    clear c24
                    by_cases c25 : 0 ≤ a9
                    ·rw [if_pos c25] at H
                     have c25b0 : decide (0 ≤ a9) = true := decide_eq_true c25
                     clear c25
                     by_cases c26 : a9 < (P.length : Int)
                     ·rw [if_pos c26] at H
                      have c26b0 : decide (a9 < (P.length : Int)) = true := decide_eq_true c26
                      clear c26
                      by_cases c27 : x67_1 < (P.length : Int)
                      ·rw [if_pos c27] at H
                       have c27b0 : decide (x67_1 < (P.length : Int)) = true := decide_eq_true c27
                       clear c27
                       obtain ⟨y153, hy153⟩ : ∃ y_ : List Int, y_ = (x15_1.set (x67_1 : Int).toNat (wrap64 ((wrap64 ((rd x15_1 x67_1) * (rd P a9))) - (wrap64 ((rd P x67_1) * (rd x a9)))))) := ⟨_, rfl⟩
                       replace H : (impl_reduceAny.l0 k1 a9 P y153 (rd x a9) (x.length : Int) (wrap64 (x67_1 + 1))) = some y := by first|(rw [hy153];with_reducible exact H)|(have H2_ := (Option.bind_some _ _).symm.trans H;rw [hy153];with_reducible exact H2_)|(have H2_ := (Option.bind_some _ _).symm.trans H;with_reducible exact H2_)|with_reducible exact H|(rw [hy153];exact H)|exact H
                       have Ny153 := Aside0.mk hy153
                       clear hy153
                       have H' := Aside0.mk H
                       clear H
                       try go_wp2
                       have n0_ := Aside0.mk (Kd.R_drew HO_15.out)
                       have n1_ := Aside0.mk (Kept.drew HK.out)
                       have n2_ := Aside0.mk (below_drew1 HB.out)
                       clear HO_15
                       clear HK
                       clear HB
                       have HO_15 := n0_
                       have HK := n1_
                       have HB := n2_
                       clear n0_ n1_ n2_
                       have p150 : 0 ≤ (x67_1 : Int) := of_decide_eq_true (by first|(with_reducible assumption)|assumption)
                       have q150 : x67_1 < (x15_1.length : Int) := of_decide_eq_true (by first|(with_reducible assumption)|assumption)
                       obtain ⟨ad150, e150, hx150_0⟩ := Kd.at_int (Kd.R_reads' HO_15.out).2.2 x67_1 p150 q150
                       cases e150
                       replace p150 := eq_true p150
                       replace q150 := eq_true q150
                       have p151 : 0 ≤ (a9 : Int) := of_decide_eq_true (by first|(with_reducible assumption)|assumption)
                       have q151 : a9 < (P.length : Int) := of_decide_eq_true (by first|(with_reducible assumption)|assumption)
                       obtain ⟨ad151, e151, hx151_0⟩ := Kd.at_int (Kd.C_kept_now HR11.out HK.out) a9 p151 q151
                       have hw151_0 := hx151_0
                       cases e151
                       replace p151 := eq_true p151
                       replace q151 := eq_true q151
                       have p152 : 0 ≤ (x67_1 : Int) := of_decide_eq_true (by first|(with_reducible assumption)|assumption)
                       have q152 : x67_1 < (P.length : Int) := of_decide_eq_true (by first|(with_reducible assumption)|assumption)
                       obtain ⟨ad152, e152, hx152_0⟩ := Kd.at_int (Kd.C_kept_now HR11.out HK.out) x67_1 p152 q152
                       have hw152_0 := hx152_0
                       obtain rfl : ad151 = ad152 := (by injection e152)
                       replace p152 := eq_true p152
                       replace q152 := eq_true q152
                       have p28 : 0 ≤ (x67_1 : Int) := of_decide_eq_true (by first|(with_reducible assumption)|assumption)
                       have q28 : (x67_1 : Int) < ((x15_1.length : Int) : Int) := of_decide_eq_true (by first|(with_reducible assumption)|assumption)
                       obtain ⟨go28, co28, eo28, gb28, gl28, cl28, HG28⟩ := Kd.R_form HO_15.out (by omega)
                       (first|cases eo28|(injection eo28 with ea_ en_ ec_;(first|subst ea_|(injection ea_ with ea_;subst ea_));subst ec_;clear en_))
                       have GB28 := Aside0.mk gb28
                       have GG28 := Aside0.mk HG28
                       clear gb28 gl28 HG28
                       have HMgo28 := Aside0.mk (show (P15_ q.1 ∨ ws_.heap.size ≤ q.1) from (HO_15.out.1 _ rfl))
                       (first|simp only [add_plain] at hx149_0|skip)
                       (first|simp only [add_plain] at hx150_0|skip)
                       obtain ⟨hx28_0, hf28_0⟩ := Kd.R_celln 0 HO_15.out (x67_1 : Int) p28 q28
                       replace p28 := eq_true p28
                       replace q28 := eq_true q28
                       have HP30 := Kd.R_putn HO_15.out (x67_1 : Int) (wrap64 ((wrap64 ((rd x15_1 x67_1) * (rd P a9))) - (wrap64 ((rd P x67_1) * (rd x a9)))))
                       rw [← Ny153.out] at HP30
                       have HQ30 := Aside0.mk HP30
                       clear HP30
                       refine start_ (n := 20) (S := fun w' => w'.cell? ⟨q.1, (x67_1).toNat, none⟩ = some (.int .i64 (rd x15_1 x67_1)) ∧ w'.cell? (ad151.add (a9).toNat) = some (.int .i64 (rd P a9)) ∧ w'.cell? (ad151.add (x67_1).toNat) = some (.int .i64 (rd P x67_1)) ∧ w'.cell? ⟨wc_.heap.size, 0, none⟩ = some (.int .i64 a9)) (ds := [19]) #[false, false, false, false, false, false, false, false, false, false, false, false, false, false, false, false, false, false, false, false] (by kernel_rfl) rfl rfl ⟨hx150_0, (Kd.foot_int (HR11.out _ (by repeat (first|exact HK.out|apply Kept.alloc|apply Kept.drewN|apply Kept.drew|refine Kept.setCell ?_ HMgo28.out _))) a9 (of_eq_true p151) (of_eq_true q151)), (Kd.foot_int (HR11.out _ (by repeat (first|exact HK.out|apply Kept.alloc|apply Kept.drewN|apply Kept.drew|refine Kept.setCell ?_ HMgo28.out _))) x67_1 (of_eq_true p152) (of_eq_true q152)), (HCBr.out _ (by repeat (first|exact HK.out|apply Kept.alloc|apply Kept.drewN|apply Kept.drew|refine Kept.setCell ?_ HMgo28.out _)))⟩ (fun hHeld => ?_);refine with_tabW impl_reduceAny.tab26 impl_reduceAny.bits26 (fun HT_ HW_ => ?_)
                       generalize wr.drew = w29 at HO_15 HK HB GG28 HQ30 hf28_0 hx150_0 hx151_0 hx152_0 hx28_0 hHeld ⊢
                       refine pure_ (i := 0) (N := some 70) (v := ?_) (a' := ?_) #[true, false, false, false, false, false, false, false, false, false, false, false, false, false, false, false, false, false, false, false] rfl rfl (any_of HT_.out (by kernel_rfl)) (fun _ _ _ h => h) (Or.inl ⟨by rfl, ?_⟩) ?_ ?_
                       rotate_left
                       ·intro w'
                        go_simp
                        with_reducible rfl
                       rotate_left
                       ·simp only [Act.put, List.setIfInBounds_toArray, List.set_cons_zero, List.set_cons_succ, i64_w, i32_w]
                        rfl
                       refine pure_ (i := 1) (N := some 71) (v := ?_) (a' := ?_) #[true, true, false, false, false, false, false, false, false, false, false, false, false, false, false, false, false, false, false, false] rfl rfl (any_of HT_.out (by kernel_rfl)) (fun _ _ _ h => h) (Or.inl ⟨by rfl, ?_⟩) ?_ ?_
                       rotate_left
                       ·intro w'
                        go_simp
                        with_reducible rfl
                       rotate_left
                       ·simp only [Act.put, List.setIfInBounds_toArray, List.set_cons_zero, List.set_cons_succ, i64_w, i32_w]
                        rfl
                       refine pure_ (i := 2) (N := some 72) (v := ?_) (a' := ?_) #[true, true, true, false, false, false, false, false, false, false, false, false, false, false, false, false, false, false, false, false] rfl rfl (any_of HT_.out (by kernel_rfl)) (fun _ _ _ h => h) (Or.inl ⟨by rfl, ?_⟩) ?_ ?_
                       rotate_left
                       ·intro w'
                        go_simp
                        with_reducible rfl
                       rotate_left
                       ·simp only [Act.put, List.setIfInBounds_toArray, List.set_cons_zero, List.set_cons_succ, i64_w, i32_w]
                        rfl
                       refine pure_ (i := 3) (N := some 73) (v := ?_) (a' := ?_) #[true, true, true, true, false, false, false, false, false, false, false, false, false, false, false, false, false, false, false, false] rfl rfl (any_of HT_.out (by kernel_rfl)) (fun _ _ _ h => h) (Or.inl ⟨by rfl, ?_⟩) ?_ ?_
                       rotate_left
                       ·intro w'
                        go_simp
                        with_reducible rfl
                       rotate_left
                       ·simp only [Act.put, List.setIfInBounds_toArray, List.set_cons_zero, List.set_cons_succ, i64_w, i32_w]
                        rfl
                       refine pure_ (i := 4) (N := some 74) (v := ?_) (a' := ?_) #[true, true, true, true, true, false, false, false, false, false, false, false, false, false, false, false, false, false, false, false] rfl rfl (any_of HT_.out (by kernel_rfl)) (fun _ _ _ h => h) (Or.inl ⟨by rfl, ?_⟩) ?_ ?_
                       rotate_left
                       ·intro w'
                        go_simp
                        with_reducible rfl
                       rotate_left
                       ·simp only [Act.put, List.setIfInBounds_toArray, List.set_cons_zero, List.set_cons_succ, i64_w, i32_w]
                        rfl
                       refine pure_ (i := 6) (N := some 76) (v := ?_) (a' := ?_) #[true, true, true, true, true, false, true, false, false, false, false, false, false, false, false, false, false, false, false, false] rfl rfl (any_of HT_.out (by kernel_rfl)) (fun _ _ _ h => h) (Or.inl ⟨by rfl, ?_⟩) ?_ ?_
                       rotate_left
                       ·intro w'
                        go_simp
                        with_reducible rfl
                       rotate_left
                       ·simp only [Act.put, List.setIfInBounds_toArray, List.set_cons_zero, List.set_cons_succ, i64_w, i32_w]
                        rfl
                       refine take_ (i := 7) (N := some 77) (v := ?_) (a' := ?_) #[true, true, true, true, true, false, true, true, false, false, false, false, false, false, false, false, false, false, false, false] rfl rfl (take_ofW HT_.out HW_.out (by kernel_rfl)) (fun _ _ _ h => h) (Or.inl ⟨by rfl, ?_⟩) hHeld ?_ ?_
                       rotate_left
                       ·rintro w' ⟨s0, s1, s2, s3⟩
                        go_simp
                        with_reducible rfl
                       rotate_left
                       ·simp only [Act.put, List.setIfInBounds_toArray, List.set_cons_zero, List.set_cons_succ, i64_w, i32_w]
                        rfl
                       refine pure_ (i := 8) (N := some 78) (v := ?_) (a' := ?_) #[true, true, true, true, true, false, true, true, true, false, false, false, false, false, false, false, false, false, false, false] rfl rfl (any_of HT_.out (by kernel_rfl)) (fun _ _ _ h => h) (Or.inl ⟨by rfl, ?_⟩) ?_ ?_
                       rotate_left
                       ·intro w'
                        go_simp
                        with_reducible rfl
                       rotate_left
                       ·simp only [Act.put, List.setIfInBounds_toArray, List.set_cons_zero, List.set_cons_succ, i64_w, i32_w]
                        rfl
                       refine pure_ (i := 11) (N := some 81) (v := ?_) (a' := ?_) #[true, true, true, true, true, false, true, true, true, false, false, true, false, false, false, false, false, false, false, false] rfl rfl (any_of HT_.out (by kernel_rfl)) (fun _ _ _ h => h) (Or.inl ⟨by rfl, ?_⟩) ?_ ?_
                       rotate_left
                       ·intro w'
                        go_simp
                        with_reducible rfl
                       rotate_left
                       ·simp only [Act.put, List.setIfInBounds_toArray, List.set_cons_zero, List.set_cons_succ, i64_w, i32_w]
                        rfl
                       refine pure_ (i := 12) (N := some 82) (v := ?_) (a' := ?_) #[true, true, true, true, true, false, true, true, true, false, false, true, true, false, false, false, false, false, false, false] rfl rfl (any_of HT_.out (by kernel_rfl)) (fun _ _ _ h => h) (Or.inl ⟨by rfl, ?_⟩) ?_ ?_
                       rotate_left
                       ·intro w'
                        go_simp
                        with_reducible rfl
                       rotate_left
                       ·simp only [Act.put, List.setIfInBounds_toArray, List.set_cons_zero, List.set_cons_succ, i64_w, i32_w]
                        rfl
                       refine pure_ (i := 13) (N := some 83) (v := ?_) (a' := ?_) #[true, true, true, true, true, false, true, true, true, false, false, true, true, true, false, false, false, false, false, false] rfl rfl (any_of HT_.out (by kernel_rfl)) (fun _ _ _ h => h) (Or.inl ⟨by rfl, ?_⟩) ?_ ?_
                       rotate_left
                       ·intro w'
                        go_simp
                        with_reducible rfl
                       rotate_left
                       ·simp only [Act.put, List.setIfInBounds_toArray, List.set_cons_zero, List.set_cons_succ, i64_w, i32_w]
                        rfl
                       refine pure_ (i := 15) (N := some 85) (v := ?_) (a' := ?_) #[true, true, true, true, true, false, true, true, true, false, false, true, true, true, false, true, false, false, false, false] rfl rfl (any_of HT_.out (by kernel_rfl)) (fun _ _ _ h => h) (Or.inl ⟨by rfl, ?_⟩) ?_ ?_
                       rotate_left
                       ·intro w'
                        go_simp
                        with_reducible rfl
                       rotate_left
                       ·simp only [Act.put, List.setIfInBounds_toArray, List.set_cons_zero, List.set_cons_succ, i64_w, i32_w]
                        rfl
                       refine take_ (i := 5) (N := some 75) (v := ?_) (a' := ?_) #[true, true, true, true, true, true, true, true, true, false, false, true, true, true, false, true, false, false, false, false] rfl rfl (take_ofW HT_.out HW_.out (by kernel_rfl)) (fun _ _ _ h => h) (Or.inl ⟨by rfl, ?_⟩) hHeld ?_ ?_
                       rotate_left
                       ·rintro w' ⟨s0, s1, s2, s3⟩
                        go_simp
                        with_reducible rfl
                       rotate_left
                       ·simp only [Act.put, List.setIfInBounds_toArray, List.set_cons_zero, List.set_cons_succ, i64_w, i32_w]
                        rfl
                       refine take_ (i := 9) (N := some 79) (v := ?_) (a' := ?_) #[true, true, true, true, true, true, true, true, true, true, false, true, true, true, false, true, false, false, false, false] rfl rfl (take_ofW HT_.out HW_.out (by kernel_rfl)) (fun _ _ _ h => h) (Or.inl ⟨by rfl, ?_⟩) hHeld ?_ ?_
                       rotate_left
                       ·rintro w' ⟨s0, s1, s2, s3⟩
                        go_simp
                        with_reducible rfl
                       rotate_left
                       ·simp only [Act.put, List.setIfInBounds_toArray, List.set_cons_zero, List.set_cons_succ, i64_w, i32_w]
                        rfl
                       refine pure_ (i := 10) (N := some 80) (v := ?_) (a' := ?_) #[true, true, true, true, true, true, true, true, true, true, true, true, true, true, false, true, false, false, false, false] rfl rfl (any_of HT_.out (by kernel_rfl)) (fun _ _ _ h => h) (Or.inl ⟨by rfl, ?_⟩) ?_ ?_
                       rotate_left
                       ·intro w'
                        go_simp
                        with_reducible rfl
                       rotate_left
                       ·simp only [Act.put, List.setIfInBounds_toArray, List.set_cons_zero, List.set_cons_succ, i64_w, i32_w]
                        rfl
                       refine take_ (i := 14) (N := some 84) (v := ?_) (a' := ?_) #[true, true, true, true, true, true, true, true, true, true, true, true, true, true, true, true, false, false, false, false] rfl rfl (take_ofW HT_.out HW_.out (by kernel_rfl)) (fun _ _ _ h => h) (Or.inl ⟨by rfl, ?_⟩) hHeld ?_ ?_
                       rotate_left
                       ·rintro w' ⟨s0, s1, s2, s3⟩
                        go_simp
                        with_reducible rfl
                       rotate_left
                       ·simp only [Act.put, List.setIfInBounds_toArray, List.set_cons_zero, List.set_cons_succ, i64_w, i32_w]
                        rfl
                       refine pure_ (i := 16) (N := some 86) (v := ?_) (a' := ?_) #[true, true, true, true, true, true, true, true, true, true, true, true, true, true, true, true, true, false, false, false] rfl rfl (any_of HT_.out (by kernel_rfl)) (fun _ _ _ h => h) (Or.inl ⟨by rfl, ?_⟩) ?_ ?_
                       rotate_left
                       ·intro w'
                        go_simp
                        with_reducible rfl
                       rotate_left
                       ·simp only [Act.put, List.setIfInBounds_toArray, List.set_cons_zero, List.set_cons_succ, i64_w, i32_w]
                        rfl
                       refine pure_ (i := 17) (N := some 87) (v := ?_) (a' := ?_) #[true, true, true, true, true, true, true, true, true, true, true, true, true, true, true, true, true, true, false, false] rfl rfl (any_of HT_.out (by kernel_rfl)) (fun _ _ _ h => h) (Or.inl ⟨by rfl, ?_⟩) ?_ ?_
                       rotate_left
                       ·intro w'
                        go_simp
                        with_reducible rfl
                       rotate_left
                       ·simp only [Act.put, List.setIfInBounds_toArray, List.set_cons_zero, List.set_cons_succ, i64_w, i32_w]
                        rfl
                       refine pure_ (i := 18) (N := some 88) (v := ?_) (a' := ?_) #[true, true, true, true, true, true, true, true, true, true, true, true, true, true, true, true, true, true, true, false] rfl rfl (any_of HT_.out (by kernel_rfl)) (fun _ _ _ h => h) (Or.inl ⟨by rfl, ?_⟩) ?_ ?_
                       rotate_left
                       ·intro w'
                        go_simp
                        with_reducible rfl
                       rotate_left
                       ·simp only [Act.put, List.setIfInBounds_toArray, List.set_cons_zero, List.set_cons_succ, i64_w, i32_w]
                        rfl
                       refine last_ (i := 19) (N := none) #[true, true, true, true, true, true, true, true, true, true, true, true, true, true, true, true, true, true, true, true] rfl rfl (one_of HT_.out (by kernel_rfl)) (by decide) (fun K hK => ?_)
                       refine skip_ (w1 := ?_) (by rfl) rfl ?_ ?_
                       rotate_left
                       ·go_simp
                        rfl
                       refine hK.out _ _ ?_
                       clear hK K
                       refine done_ (done_of HT_.out (by kernel_rfl)) ?_
                       try go_wp2
                       (try simp only [← hl15_1])
                       go_roundg k1
                       case measure => have := HK1.out;omega
                       case rel => exact ⟨(y153), (wrap64 (x67_1 + 1)), (by first|rfl|(simp;done)|(simp [*];done)), H', ⟨by have := HK1.out;omega⟩, ⟨by (try simp only [hl15_1]);(with_reducible repeat (first|apply Kd.R_alloc|apply Kd.R_drewN|apply Kd.R_drew));exact HQ30.out⟩, ⟨by repeat (first|(with_reducible first|exact HK.out|apply Kept.alloc|apply Kept.drewN|apply Kept.drew|refine Kept.setCell ?_ HMgo28.out _)|exact HK.out)⟩, ⟨by repeat (first|(with_reducible first|exact HB.out|apply below_alloc|apply pw_below_drewN|apply below_drew1|refine below_set ?_ GB28.out)|exact HB.out)⟩⟩
                      ·rw [if_neg c27] at H
                       exact absurd H (by simp)
                     ·rw [if_neg c26] at H
                      exact absurd H (by simp)
                    ·rw [if_neg c25] at H
                     exact absurd H (by simp)
                   ·rw [if_neg c24] at H
                    exact absurd H (by simp)
                  ·rw [if_neg c23] at H
                   exact absurd H (by simp)
                 ·rw [if_neg c22] at H
                  have c22b0 : decide (x67_1 < (x.length : Int)) = false := decide_eq_false c22
                  have c22b1 : decide (x67_1 < (x15_1.length : Int)) = false := by have h5_ := hl15_1;rw [show (x15_1.length : Int) = (x.length : Int) by omega];exact c22b0
                  clear c22
                  replace H := Option.bind_eq_some_iff.mp H
                  obtain ⟨t154, A310, H⟩ := H
                  replace H : (some t154) = some y := H
                  have A31 := Aside0.mk A310
                  clear A310
                  obtain rfl := Option.some.inj H
                  go_wp2_with (first|((with_reducible refine gate_callee (f := 105) rfl ?_);refine goesL_ (some 91) rfl rfl Try.func105 (by kernel_rfl) rfl #[.slice (some (⟨q.1, 0, none⟩ : Addr)) x15_1.length q.2] rfl (by (try simp only [List.map_toArray, List.map_cons, List.map_nil]);first|done|rfl|(simp only [List.length_drop, List.length_take];rfl)) ?_;(with_reducible refine (impl_tidy.calls k1 (fun k_ => some k_ = (.slice (some (⟨q.1, 0, none⟩ : Addr)) x15_1.length q.2 : Value).ownBlock) (.slice (some (⟨q.1, 0, none⟩ : Addr)) x15_1.length q.2) x15_1 t154 w _ ?side1 ?side2 A31.out).mono ?_);(case side1 => repeat (first|(with_reducible first|exact HB.out|apply below_alloc|apply pw_below_drewN|apply below_drew1)|exact HB.out));(case side2 => exact Kd.R_tight rfl HO_15.out);rintro e w32 ⟨rfl, hy0, hb, hkp⟩;refine ⟨_, rfl, ?_⟩;have n0_ := Aside0.mk (Kd.R_reok rfl hy0 (fun k_ e_ => HO_15.out.1 k_ e_));have n1_ := Aside0.mk (Kept.then_ (S := (fun k_ => P15_ k_)) (by repeat (first|(with_reducible first|exact HK.out|apply Kept.alloc|apply Kept.drewN|apply Kept.drew)|exact HK.out)) hkp (fun k_ hs_ => (fun e_ => (HO_15.out.1 k_ e_.symm)) hs_));have n2_ := Aside0.mk (hb);clear HO_15;clear HK;clear HB;have HO_15 := n0_;have HK := n1_;have HB := n2_;clear n0_ n1_ n2_;(try clear hb);(try clear hkp);(try clear hy0)))
                  go_roundg (qs.length - j)
                  case measure => have := HJ.out;omega
                  case rel => exact ⟨j + 1, by first|go_num|rfl|(simp;done)|(simp [*];done), ⟨by omega, by omega⟩, ⟨HSTEP.out _ HK.out (by show Kd.R (Kd.int .i64) 3 _ _ _ (sv P.length q) _;rw [← HU.out, hl15_1];exact Kd.R_reok rfl HO_15.out (fun k_ e_ => by have e2_ := e_;(try rw [HU.out] at e2_);exact (Option.some.inj e2_).symm))⟩, ⟨HKS.out _ HK.out⟩, HB⟩
             ·rw [if_neg c18] at H
              exact absurd H (by simp)
            ·rw [if_neg c17] at H
             exact absurd H (by simp)
           ·have hje : qs.length = j := by have := HJ.out;omega
            clear hje
            go_wp2
            go_roundg (1)
            case measure => have := HT.out;omega
            case rel => exact ⟨1 + 1, by first|rfl|(simp;done)|go_num, ⟨by omega, by omega⟩, ⟨by have h1 := HRA.out;have h2 := HJ.out;rw [show ps1.length + j = off ps1.length qs.length (1 + 1) by show _ = ps1.length + qs.length;omega] at h1;exact h1⟩, HK, HB⟩
         ·obtain rfl : t = 2 := by have := HT.out;omega
          go_wp2_with ((with_reducible refine gate_builtin (b := .append) (xs := #[.tmp 94, .tmp 96]) rfl ?_);at_builtin;go_loud (refine Kd.R_append (SK P.length) (w0 := w) w.heap.size rfl (.tmp 94) (.tmp 96) 22 23 (.slice none 0 0) 24 rfl Try.underlying22 info23 rfl (show (0 : Nat) < 1 by omega) (by omega) (.slice A8 qs.length c8) qs p [.slice A11 P.length c11] (fun _ => True) (fun _ => False) rfl rfl ?aP (fun _ h => h.elim) (fun _ _ => trivial) ?aO ?aB ?aS ?aL ?_);(case aP => exact (by show [_] = [_];rw [HPV.out]));(case aO => exact Kd.R_mono HSOR.out (fun _ _ => trivial));(case aB => exact HB.out);(case aS => exact HB.out.size);(case aL => omega);intro v1 w8 ho hb hg hat;have HO8 := Aside0.mk ho;have HB8 := Aside0.mk hb;have HG8 := Aside0.mk hg;have HAT := Aside0.mk hat;clear ho hb hg hat)
          go_roundg (P.length - c)
          case measure => have := HC.out;omega
          case rel =>
           have hk8 : Kept wr w8 (fun k_ => (Value.slice A8 qs.length c8).ownBlock = some k_) := ⟨HG8.out.size, fun k_ hlt hne => HG8.out.block k_ hlt (fun e_ => hne e_.symm)⟩
           have hlz := HZ.out.1
           have hyl : qs.length = Y.length := by
            have h1 := HRA3.out.len
            rw [List.length_append, List.length_append] at h1
            have := HPS3.out
            omega
           have hfin : RowsAre wr w.heap.size P.length (ps1 ++ qs) (X2 ++ Y2) := by
            have h1 := HRA.out
            rw [show off ps1.length qs.length 2 = (X.eraseIdx ix ++ Y).length by rw [List.length_append, ← HPS3.out, ← hyl];rfl, mix_all _ _ hlz] at h1
            exact h1
           have hapart : ∀ q_ ∈ ps1 ++ qs, ¬ (Value.slice A8 qs.length c8).ownBlock = some q_.1 := fun q_ hq_ e_ => by
            obtain ⟨x_, hx_⟩ := hfin.mem hq_
            exact HSOR.out.apart hx_ e_
           have hrpr : RowIs wr w.heap.size P.length p P := HRP3.out.kept HK.out (fun ⟨p_, hp_, e_⟩ => HND3.out.2 p_ hp_ e_.symm)
           have hrp8 : RowIs w8 w.heap.size P.length p P := hrpr.kept hk8 (fun e_ => HSOR.out.apart hrpr e_)
           refine ⟨c + 1, by first|go_num|rfl|(simp;done)|(simp [*];done), ⟨by omega, by omega⟩, ⟨ps1, qs ++ [p], X2, Y2 ++ [P], ?_, HSPR.out.kept hk8 (fun k_ hk_ e_ => HVV3.out k_ hk_ e_), Kd.R_tight rfl HO8.out, ?_, ?_, HND4.out, ?_, by omega, by simp;omega, HB8.out⟩⟩
           ·have := HD.out
            rw [show P.length - (c + 1) = d by omega]
            exact HL.out
           ·rw [← List.append_assoc, ← List.append_assoc]
            refine (hfin.kept hk8 hapart).append ⟨rfl, fun i_ p_ x_ hp_ hx_ => ?_⟩
            cases i_ with
           |zero =>
             simp only [List.getElem?_cons_zero, Option.some.injEq] at hp_ hx_
             subst hp_;subst hx_
             exact hrp8
           |succ i_ => simp at hp_
           ·rw [HPS3.out];exact HX2.out
           ·intro k_ hk_ e_
            rcases HAT.out with h_|⟨b_, h_, hb_⟩
            ·rw [h_] at e_
             exact HVV3.out k_ hk_ e_
            ·rw [h_] at e_
             have h2_ := HSPR.out.lt k_ hk_
             have h3_ := Option.some.inj e_
             omega
      ·rw [if_neg htx] at hlp
       cases hlp
    ·go_wp2
     have hcn : n - c = 0 := by omega
     rw [hcn] at hlp
     obtain rfl := Option.some.inj hlp
     go_ret
     exact ⟨_, by first|rfl|(simp;done)|(simp [*];done), to_S HSO.out (HRA.out.right HLEN.out) (by have h := HND.out;rw [List.map_append] at h;exact (List.nodup_append.1 h).2.1), HB.out⟩
theorem slices_Clone_int_int_78.eql_nil (w : World) (t e : TypeId) (a : Option Addr) (n c : Nat) (h : Try.prog.underlying t = some (.slice e)) :
  (Go.binOp .eql t (.slice a n c) (.slice none 0 0)).run Try.prog w = .ok (.bool a.isNone) w := Go.Lib.run_eql_slice_nil w t e a n c 0 0 h
def slices_Clone_int_int_78.f (l0 : List (List Int)) : Option ((List (List Int))) := (some (([] : List (List Int)) : List (List Int))).bind fun y356 => (if y356.length + l0.length < 5864062014805 then (some (y356 ++ l0)) else (none))
set_option maxHeartbeats 8000000 in
set_option maxRecDepth 100000 in
theorem slices_Clone_int_int_78.calls (P0_ : Nat → Prop) (A0 : Option Addr) (c0 : Nat) (l0 : List (List Int)) (r : List (List Int)) (w : World) (hs0 : Kd.V (Kd.slice 3 (Kd.int .i64)) 23 w w.heap.size (fun k_ => P0_ k_) (.slice A0 l0.length c0) l0) (h : slices_Clone_int_int_78.f l0 = some r) :
 Calls Try.prog 78 #[.slice A0 l0.length c0] w fun e w' => ∃ v0_ : Value, e = .returned (v0_) ∧ Kd.N (Kd.slice 3 (Kd.int .i64)) 23 w' w.heap.size (fun k_ => (P0_ k_ ∨ w.heap.size ≤ k_)) v0_ r ∧ Below w.heap.size w w' := by
 have HO0:=aM (show Kd.V (Kd.slice 3 (Kd.int .i64)) 23 w w.heap.size (fun k_=>(P0_ k_∨w.heap.size≤k_)) (.slice A0 l0.length c0) l0 from Kd.V_mono hs0 (fun k_ hk=>.inl hk));cases A0 with
 | none=>
  have hl:l0=[]:=by
   cases l0 with
   | nil=>rfl
   | cons a l=>
    obtain ⟨ad,e,_⟩:=(Kd.V_reads' HO0.out).2.2.2.2 (by simp);cases e
  subst hl;have hr:r=[]:=(by simpa [slices_Clone_int_int_78.f] using h.symm);subst hr;clear h;have heq:∀W:World,(Go.binOp .eql 22 (.slice none 0 c0) (.slice none 0 0)).run Try.prog W = .ok (.bool true) W:=fun W=>slices_Clone_int_int_78.eql_nil W 22 _ _ _ _ Try.underlying22;go_enter Try.func78,Try.ntmps78;go_wp2;go_ret;exact ⟨_,rfl,Kd.N_nil _ _ _ _ _,Below.refl _ _⟩
 | some ad0=>
  have heq:∀W:World,(Go.binOp .eql 22 (.slice (some ad0) l0.length c0) (.slice none 0 0)).run Try.prog W = .ok (.bool false) W:=fun W=>slices_Clone_int_int_78.eql_nil W 22 _ _ _ _ Try.underlying22;have HB:=aM (Below.refl w.heap.size w);have H:((some (([]:List (List Int)):List (List Int))).bind fun y356=>(if y356.length+l0.length<5864062014805 then (some (y356 ++ l0)) else (none)))=some r:=h;clear h;obtain ⟨y356,hy356⟩:∃y_:List (List Int),y_=(([]:List (List Int))):=⟨_,rfl⟩;replace H:(if y356.length+l0.length<5864062014805 then (some (y356 ++ l0)) else (none))=some r:=(by first|(rw [hy356];with_reducible exact H)|(have H2_:=(Option.bind_some _ _).symm.trans H;rw [hy356];with_reducible exact H2_)|(have H2_:=(Option.bind_some _ _).symm.trans H;with_reducible exact H2_)|with_reducible exact H|(rw [hy356];exact H)|exact H);have Ny356:=aM hy356;clear hy356;by_cases c2:y356.length+l0.length<5864062014805
  ·rw [if_pos c2] at H;have LMc2:=aM c2;clear c2;obtain ⟨y359,hy359⟩:∃y_:List (List Int),y_=(y356 ++ l0):=⟨_,rfl⟩;replace H:(some y359)=some r:=(by first|(rw [hy359];with_reducible exact H)|(have H2_:=(Option.bind_some _ _).symm.trans H;rw [hy359];with_reducible exact H2_)|(have H2_:=(Option.bind_some _ _).symm.trans H;with_reducible exact H2_)|with_reducible exact H|(rw [hy359];exact H)|exact H);have Ny359:=aM hy359;clear hy359;obtain rfl:=Option.some.inj H;go_enter Try.func78,Try.ntmps78;go_wp2_with (first|((with_reducible refine gate_dst (N:=5) rfl ?_);refine Kd.N_lit (Kd.slice 3 (Kd.int .i64)) _ 23 ?hg (N':=5) ?hd (xs:=([]:List (List Int))) (inner:=[]) (ok:=(fun k_=>(P0_ k_∨w.heap.size≤k_))) (okp:=(fun k_=>(P0_ k_∨w.heap.size≤k_))) ?hr ?hp (fun _ hk=>hk) ((show ∀k_,w.heap.size≤k_→(fun k_=>(P0_ k_∨w.heap.size≤k_)) k_ from fun k_ hk=>(.inr (Nat.le_trans (below_size (zb HB.out)) hk))) _ (Nat.le_refl _)) (Below.refl _ _) (Nat.le_refl _) (by simp) ?_;(case hd=>rfl);(case hg=>rfl);(case hr=>first|(go_simp;done)|(go_simp;rfl));(case hp=>exact (Reps.none _ _));intro v357 w3 ho4 hb hg_ hnew_;clear hg_ hnew_;(first|rw [← Ny356.out] at ho4|(simp only [Int.reduceToNat] at ho4;rw [← Ny356.out] at ho4));replace HO0:=aM (Kd.V_elder' (zv HO0.out) (Kd.N_base ho4) hb);have HO358:=aM (Kd.N_lower ho4 (below_size (zb HB.out)));replace HB:=aM (below_step (zb HB.out) hb);clear hb ho4)|((with_reducible refine gate_builtin (b:=.append) (xs:=#[.tmp 5,.tmp 6]) rfl ?_);at_builtin;refine Kd.N_append_rows (Kd.slice 3 (Kd.int .i64)) (w0:=w) w.heap.size rfl (.tmp 5) (.tmp 6) 22 23 (.slice none 0 0) 24 rfl Try.underlying22 info23 rfl (by decide) (by omega) v357 y356 l0 _ _ _ (fun k_=>(P0_ k_∨w.heap.size≤k_)) (fun k_=>((fun k_=>(P0_ k_∨w.heap.size≤k_))) k_∧some k_≠(v357:Value).ownBlock) rfl rfl ?aO ?aR (fun _ hk=>hk) ?aF ?aB ?aS ?aL ?_;(case aR=>exact (by skip;exact Kd.V_F (Kd.V_mono (ok':=(fun k_=>((fun k_=>(P0_ k_∨w.heap.size≤k_))) k_∧some k_≠(v357:Value).ownBlock)) (HO0.out) (fun k_ hk=>⟨hk.1,hk.2⟩))));(case aB=>exact (zb HB.out));(case aF=>exact (fun k_ hk=>(.inr (Nat.le_trans (below_size (zb HB.out)) hk))));(case aO=>exact (zn HO358.out));(case aS=>exact (below_size (zb HB.out)));(case aL=>have:=LMc2.out;omega);intro v360 w5 ho hb hg hat;rw [← Ny359.out] at ho;replace HO0:=aM (Kd.V_afterv (ok:=(fun k_=>(P0_ k_∨w.heap.size≤k_))) (zv HO0.out) hg hat);replace HB:=aM (hb);have HO361:=aM (ho);clear HO358 ho hb hg hat));go_ret;exact ⟨_,by first|rfl|(simp [errW_none,errW_some]<;>rfl)|(simp [*,errW_none,errW_some]<;>rfl),zn HO361.out,zb HB.out⟩
  ·rw [if_neg c2] at H;exact absurd H (by simp)
def impl_IsInSpan.j0 : Nat → List (List Int) → List Int → Int → Bool → Option (Bool)
 | 0, _, _, _, _ => none
 | k + 1, x0, x1, x5, x18 => if x18 = true then (some false) else ((impl_reduceAny.f k x0 x5).bind fun t367 => ((slices_Clone_int_int_78.f x0).bind fun t370 => (if t370.length < 5864062014805 then ((impl_reduceAny.f k (t370 ++ [x1]) x5).bind fun t376 => (some ((t367.length : Int) == (t376.length : Int)))) else (none))))
def impl_IsInSpan.f (k : Nat) (l0 : List (List Int)) (l1 : List Int) : Option (Bool) := (impl_IsMatrix.f k l0 (l1.length : Int)).bind fun t362 => (if t362 = true then ((impl_IsMatrix.f k (([l1] : List (List Int))) (l1.length : Int)).bind fun t366 => (impl_IsInSpan.j0 k l0 l1 (l1.length : Int) (!t366))) else (impl_IsInSpan.j0 k l0 l1 (l1.length : Int) true))
set_option maxHeartbeats 8000000 in
set_option maxRecDepth 100000 in
theorem impl_IsInSpan.calls (k : Nat) (P0_ : Nat → Prop) (A0 : Option Addr) (c0 : Nat) (l0 : List (List Int)) (P1_ : Nat → Prop) (A1 : Option Addr) (c1 : Nat) (l1 : List Int) (r : Bool) (w : World) (hs0 : Kd.V (Kd.slice 3 (Kd.int .i64)) 23 w w.heap.size (fun k_ => P0_ k_) (.slice A0 l0.length c0) l0) (hs1 : Kd.V (Kd.int .i64) 3 w w.heap.size (fun k_ => P1_ k_) (.slice A1 l1.length c1) l1) (h : impl_IsInSpan.f k l0 l1 = some r) :
 Calls Try.prog 30 #[.slice A0 l0.length c0, .slice A1 l1.length c1] w fun e w' => e = .returned (.bool r) ∧ Below w.heap.size w w' := by
 have HO0:=aM (show Kd.V (Kd.slice 3 (Kd.int .i64)) 23 w w.heap.size (fun k_=>((P0_ k_∨P1_ k_)∨w.heap.size≤k_)) (.slice A0 l0.length c0) l0 from Kd.V_mono hs0 (fun k_ hk=>.inl (.inl hk)));have HO1:=aM (show Kd.V (Kd.int .i64) 3 w w.heap.size (fun k_=>((P0_ k_∨P1_ k_)∨w.heap.size≤k_)) (.slice A1 l1.length c1) l1 from Kd.V_mono hs1 (fun k_ hk=>.inl (.inr hk)));have HB:=aM (Below.refl w.heap.size w);have H:((impl_IsMatrix.f k l0 (l1.length:Int)).bind fun t362=>(if t362=true then ((impl_IsMatrix.f k (([l1]:List (List Int))) (l1.length:Int)).bind fun t366=>(impl_IsInSpan.j0 k l0 l1 (l1.length:Int) (!t366))) else (impl_IsInSpan.j0 k l0 l1 (l1.length:Int) true)))=some r:=h;clear h;have HC3:=aM H;clear H;go_enter Try.func30,Try.ntmps30;go_upto_region 2 with (fail)
 go_cut [18] (fun v18 wc=>∃(kq:Nat) (x18_2:Bool),v18 = .bool x18_2∧Aside0 (impl_IsInSpan.j0 kq l0 l1 (l1.length:Int) x18_2=some r)∧Aside0 (kq≤k)∧Aside0 (Kd.V (Kd.slice 3 (Kd.int .i64)) 23 wc w.heap.size (fun k_=>((P0_ k_∨P1_ k_)∨w.heap.size≤k_)) (.slice A0 l0.length c0) l0)∧Aside0 (Kd.V (Kd.int .i64) 3 wc w.heap.size (fun k_=>((P0_ k_∨P1_ k_)∨w.heap.size≤k_)) (.slice A1 l1.length c1) l1)∧Aside0 (Below w.heap.size w wc))
 case first=>
  have H:=HC3.out;clear HC3;obtain ⟨t362,A4,H⟩:=bz H;by_cases c5:t362=true
  ·subst c5;replace H:=ifT H;obtain ⟨y363,hy363⟩:∃y_:List (List Int),y_=(([l1]:List (List Int))):=⟨_,rfl⟩;replace H:((impl_IsMatrix.f k y363 (l1.length:Int)).bind fun t366=>(impl_IsInSpan.j0 k l0 l1 (l1.length:Int) (!t366)))=some r:=(by first|(rw [hy363];with_reducible exact H)|(have H2_:=(Option.bind_some _ _).symm.trans H;rw [hy363];with_reducible exact H2_)|(have H2_:=(Option.bind_some _ _).symm.trans H;with_reducible exact H2_)|with_reducible exact H|(rw [hy363];exact H)|exact H);have Ny363:=aM hy363;clear hy363;obtain ⟨t366,A6,H⟩:=bz H;have H':=aM H;clear H;go_wp2_with ((with_reducible refine gate_callee (f:=40) rfl ?_);refine gm (some 10) Try.func40 #[.slice A0 l0.length c0,.int .i64 (l1.length:Int)] ?_;(with_reducible refine (impl_IsMatrix.calls k _ _ l0 (l1.length:Int) true _ ?side1 ?side2 A4.out).mono ?_);(case side1=>exact zc (Kd.V_reads' HO0.out).2.2);(case side2=>exact (Kd.V_reads' HO0.out).2.1);rintro e w' ⟨rfl,⟨nd,rfl⟩⟩;refine ⟨_,rfl,?_⟩);have A6b:=aM (show impl_IsMatrix.f k ([l1]:List (List Int)) (l1.length:Int)=some t366 by rw [← Ny363.out];exact A6.out);refine (impl_IsMatrix.calls k _ _ ([l1]:List (List Int)) (l1.length:Int) t366 _ ?sideA ?sideB A6b.out).mono ?_;(case sideA=>exact YtojkepidkmkmpaaRed.one_C (Kd.C_alloc (Kd.C_drewN (Kd.V_reads' HO1.out).2.2 _) _) (Kd.V_reads' HO1.out).2.1 (YtojkepidkmkmpaaRed.cell_new _ _ _));(case sideB=>exact Nat.le_refl _);rintro e w' ⟨rfl,⟨nd2_,rfl⟩⟩;go_wp2;go_meet;(case rel=>exact ⟨_,(!t366),zt,H',⟨by first|omega|exact Nat.le_refl _⟩,⟨by (with_reducible repeat (first|apply Kd.V_alloc|apply Kd.V_drewN|apply Kd.V_drew));(first|exact HO0.out|exact Kd.V_mono HO0.out (fun _ hk=>hk.1))⟩,⟨by (with_reducible repeat (first|apply Kd.V_alloc|apply Kd.V_drewN|apply Kd.V_drew));(first|exact HO1.out|exact Kd.V_mono HO1.out (fun _ hk=>hk.1))⟩,⟨zb HB.out⟩⟩)
  ·replace c5:=Bool.eq_false_iff.mpr c5;subst c5;replace H:=ifF H;have H':=aM H;clear H;go_wp2_with (first|((with_reducible refine gate_callee (f:=40) rfl ?_);refine gm (some 10) Try.func40 #[.slice A0 l0.length c0,.int .i64 (l1.length:Int)] ?_;(with_reducible refine (impl_IsMatrix.calls k _ _ l0 (l1.length:Int) false _ ?side1 ?side2 A4.out).mono ?_);(case side1=>exact zc (Kd.V_reads' HO0.out).2.2);(case side2=>exact (Kd.V_reads' HO0.out).2.1);rintro e w' ⟨rfl,⟨nd,rfl⟩⟩;refine ⟨_,rfl,?_⟩));go_meet;(case rel=>exact ⟨_,(true),zt,H',⟨by first|omega|exact Nat.le_refl _⟩,⟨zv HO0.out⟩,⟨zv HO1.out⟩,⟨zb HB.out⟩⟩)
 case rest=>
  clear HC3;(try clear c1);(try clear p2);(try clear c3);(try clear c4);(try clear c5);obtain ⟨kq,x18_2,rfl,HA,HJ2,HO_0,HO_1,HB⟩:=hcut;cases kq with
  | zero=>exact absurd HA.out (by simp [impl_IsInSpan.j0])
  | succ kj2=>
   have H:=HA.out;clear HA;simp only [impl_IsInSpan.j0] at H;by_cases c10:x18_2=true
   ·subst c10;replace H:=ifT H;obtain rfl:=Option.some.inj H;go_wp2;go_ret;exact ⟨by first|rfl|(simp [errW_none,errW_some]<;>rfl)|(simp [*,errW_none,errW_some]<;>rfl),zb HB.out⟩
   ·replace c10:=Bool.eq_false_iff.mpr c10;subst c10;replace H:=ifF H;obtain ⟨t367,A11,H⟩:=bz H;obtain ⟨t370,A12,H⟩:=bz H;by_cases c13:t370.length<5864062014805
    ·rw [if_pos c13] at H;have LMc13:=aM c13;clear c13;obtain ⟨y373,hy373⟩:∃y_:List (List Int),y_=(t370 ++ [l1]):=⟨_,rfl⟩;replace H:((impl_reduceAny.f kj2 y373 (l1.length:Int)).bind fun t376=>(some ((t367.length:Int) == (t376.length:Int))))=some r:=(by first|(rw [hy373];with_reducible exact H)|(have H2_:=(Option.bind_some _ _).symm.trans H;rw [hy373];with_reducible exact H2_)|(have H2_:=(Option.bind_some _ _).symm.trans H;with_reducible exact H2_)|with_reducible exact H|(rw [hy373];exact H)|exact H);have Ny373:=aM hy373;clear hy373;obtain ⟨t376,A14,H⟩:=bz H;obtain rfl:=Option.some.inj H;go_wp2_with (first|((with_reducible refine gate_callee (f:=77) rfl ?_);refine gm (some 21) Try.func77 #[.slice A0 l0.length c0,.int .i64 (l1.length:Int)] ?_;(with_reducible refine (impl_reduceAny.calls kj2 _ _ l0 (l1.length:Int) t367 _ ?side1 ?side2 A11.out).mono ?_);(case side1=>exact zc (Kd.V_reads' HO_0.out).2.2);(case side2=>exact (Kd.V_reads' HO_0.out).2.1);rintro e w15 ⟨v368,rfl,ho0,hb⟩;refine ⟨_,rfl,?_⟩;replace HO_0:=aM (Kd.V_elder' (zv HO_0.out) (by first|exact Kd.N_base ho0|exact Kd.S_base ho0) hb);replace HO_1:=aM (Kd.V_elder' (zv HO_1.out) (by first|exact Kd.N_base ho0|exact Kd.S_base ho0) hb);have HO369:=aM (Kd.N_lower (Kd.N_mono (ok':=fun k_=>((P0_ k_∨P1_ k_)∨w.heap.size≤k_)) (Kd.S_N (Kd.S_bound ho0)) (fun k_ hk_=>(.inr (Nat.le_trans (below_size (zb HB.out)) hk_.2.1)))) (below_size (zb HB.out)));replace HB:=aM (below_step (zb HB.out) hb);(try clear hb);(try clear hb2);(try clear hk);(try clear hi);(try clear ho0);obtain ⟨Ao16,co16,eo16⟩:=Kd.N_slice HO369.out;subst eo16)|((with_reducible refine gate_callee (f:=78) rfl ?_);refine gm (some 24) Try.func78 #[.slice A0 l0.length c0] ?_;(with_reducible refine (slices_Clone_int_int_78.calls (fun k_=>(((P0_ k_∨P1_ k_)∨w.heap.size≤k_)∧some k_≠(.slice Ao16 t367.length co16:Value).ownBlock)) _ _ l0 t370 _ ?side1 A12.out).mono ?_);(case side1=>exact HO_0.out);rintro e w17 ⟨v371,rfl,ho0,hb⟩;refine ⟨_,rfl,?_⟩;replace HO_0:=aM (Kd.V_elder' (zv HO_0.out) (by first|exact Kd.N_base ho0|exact Kd.S_base ho0) hb);replace HO_1:=aM (Kd.V_elder' (zv HO_1.out) (by first|exact Kd.N_base ho0|exact Kd.S_base ho0) hb);have HO372:=aM (Kd.N_lower (Kd.N_mono (ok':=fun k_=>((P0_ k_∨P1_ k_)∨w.heap.size≤k_)∧some k_≠(.slice Ao16 t367.length co16:Value).ownBlock) ho0 (fun k_ hk_=>⟨Or.elim hk_ (fun hs_=>hs_.1) (fun hn_=>(.inr (Nat.le_trans (below_size (zb HB.out)) hn_))),Or.elim hk_ (fun hs_=>hs_.2) (fun hn_=>(Kd.fresh' (Kd.N_lt (zn HO369.out)) k_ hn_))⟩)) (below_size (zb HB.out)));replace HO369:=aM (Kd.N_elder' (zn HO369.out) (by first|exact Kd.N_base ho0|exact Kd.S_base ho0) hb);replace HB:=aM (below_step (zb HB.out) hb);(try clear hb);(try clear hb2);(try clear hk);(try clear hi);(try clear ho0))|((with_reducible refine gate_builtin (b:=.append) (xs:=#[.tmp 24,.tmp 26]) rfl ?_);(try (refine gate_guard (by rfl) ?_;dsimp only));at_builtin;refine Kd.N_append (Kd.slice 3 (Kd.int .i64)) (w0:=w) w.heap.size rfl (.tmp 24) (.tmp 26) 22 23 (.slice none 0 0) 24 rfl Try.underlying22 info23 rfl (by decide) (by omega) v371 t370 l1 [.slice A1 l1.length c1] (fun k_=>((P0_ k_∨P1_ k_)∨w.heap.size≤k_)∧some k_≠(.slice Ao16 t367.length co16:Value).ownBlock) (fun k_=>((fun k_=>((P0_ k_∨P1_ k_)∨w.heap.size≤k_)∧some k_≠(.slice Ao16 t367.length co16:Value).ownBlock)) k_∧some k_≠(v371:Value).ownBlock) rfl rfl ?aP (fun _ hk=>hk) ?aF ?aO ?aB ?aS ?aL ?_;(case aP=>exact (Kd.FK_slice_mk (Kd.V_reads' (Kd.V_mono (ok':=(fun k_=>((fun k_=>((P0_ k_∨P1_ k_)∨w.heap.size≤k_)∧some k_≠(.slice Ao16 t367.length co16:Value).ownBlock)) k_∧some k_≠(v371:Value).ownBlock)) (HO_1.out) (fun k_ hk=>⟨⟨hk.1.1,hk.1.2⟩,hk.2⟩))).2.1 (Kd.V_F (Kd.V_mono (ok':=(fun k_=>((fun k_=>((P0_ k_∨P1_ k_)∨w.heap.size≤k_)∧some k_≠(.slice Ao16 t367.length co16:Value).ownBlock)) k_∧some k_≠(v371:Value).ownBlock)) (HO_1.out) (fun k_ hk=>⟨⟨hk.1.1,hk.1.2⟩,hk.2⟩)))));(case aB=>exact (zb HB.out));(case aF=>exact (fun k_ hk=>⟨(.inr (Nat.le_trans (below_size (zb HB.out)) hk)),Kd.fresh' (Kd.N_lt (zn HO369.out)) k_ hk⟩));(case aO=>exact (zn HO372.out));(case aS=>exact (below_size (zb HB.out)));(case aL=>have:=LMc13.out;omega);intro v374 w18 ho hb hg hat;rw [← Ny373.out] at ho;replace HO_0:=aM (Kd.V_afterv (ok:=(fun k_=>((P0_ k_∨P1_ k_)∨w.heap.size≤k_)∧some k_≠(.slice Ao16 t367.length co16:Value).ownBlock)) (zv HO_0.out) hg hat);replace HO_1:=aM (Kd.V_afterv (ok:=(fun k_=>((P0_ k_∨P1_ k_)∨w.heap.size≤k_)∧some k_≠(.slice Ao16 t367.length co16:Value).ownBlock)) (zv HO_1.out) hg hat);replace HO369:=aM (Kd.N_afterv (ok:=(fun k_=>((P0_ k_∨P1_ k_)∨w.heap.size≤k_))) (zn HO369.out) hg hat);replace HB:=aM (hb);have HO375:=aM (ho);clear HO372 ho hb hg hat;obtain ⟨Ao19,co19,eo19⟩:=Kd.N_slice HO375.out;subst eo19)|((with_reducible refine gate_callee (f:=77) rfl ?_);refine gm (some 29) Try.func77 #[.slice Ao19 y373.length co19,.int .i64 (l1.length:Int)] ?_;(with_reducible refine (impl_reduceAny.calls kj2 _ _ y373 (l1.length:Int) t376 _ ?side1 ?side2 A14.out).mono ?_);(case side1=>exact zc (Kd.N_reads' HO375.out).2.2);(case side2=>exact (Kd.N_reads' HO375.out).2.1);rintro e w20 ⟨v377,rfl,ho0,hb⟩;refine ⟨_,rfl,?_⟩;replace HO_0:=aM (Kd.V_elder' (zv HO_0.out) (by first|exact Kd.N_base ho0|exact Kd.S_base ho0) hb);replace HO_1:=aM (Kd.V_elder' (zv HO_1.out) (by first|exact Kd.N_base ho0|exact Kd.S_base ho0) hb);have HO378:=aM (Kd.N_lower (Kd.N_mono (ok':=fun k_=>((P0_ k_∨P1_ k_)∨w.heap.size≤k_)∧some k_≠(.slice Ao16 t367.length co16:Value).ownBlock∧some k_≠(.slice Ao19 y373.length co19:Value).ownBlock) (Kd.S_N (Kd.S_bound ho0)) (fun k_ hk_=>⟨(.inr (Nat.le_trans (below_size (zb HB.out)) hk_.2.1)),(Kd.fresh' (Kd.N_lt (zn HO369.out)) k_ hk_.2.1),(Kd.fresh' (Kd.N_lt (zn HO375.out)) k_ hk_.2.1)⟩)) (below_size (zb HB.out)));replace HO369:=aM (Kd.N_elder' (zn HO369.out) (by first|exact Kd.N_base ho0|exact Kd.S_base ho0) hb);replace HO375:=aM (Kd.N_elder' (zn HO375.out) (by first|exact Kd.N_base ho0|exact Kd.S_base ho0) hb);replace HB:=aM (below_step (zb HB.out) hb);(try clear hb);(try clear hb2);(try clear hk);(try clear hi);(try clear ho0);obtain ⟨Ao21,co21,eo21⟩:=Kd.N_slice HO378.out;subst eo21));go_ret;exact ⟨by first|rfl|(simp [errW_none,errW_some]<;>rfl)|(simp [*,errW_none,errW_some]<;>rfl),zb HB.out⟩
    ·rw [if_neg c13] at H;exact absurd H (by simp)
def impl_IsSystem.f (k : Nat) (l0 : List (List Int)) (l1 : List Int) (a2 : Int) : Option (Bool) := (impl_IsMatrix.f k l0 a2).bind fun t379 => (if t379 = true then (if (l1.length : Int) = (l0.length : Int) then ((impl_allIn.f k l1 (-1000) 1000).bind fun t380 => (some t380)) else (some false)) else (some false))
set_option maxHeartbeats 8000000 in
set_option maxRecDepth 100000 in
theorem impl_IsSystem.calls (k : Nat) (A0 : Option Addr) (c0 : Nat) (l0 : List (List Int)) (A1 : Option Addr) (c1 : Nat) (l1 : List Int) (a2 : Int) (r : Bool) (w : World) (hr0 : Kd.C (Kd.slice 3 (Kd.int .i64)) w A0 l0.length l0) (hc0 : l0.length ≤ c0) (hr1 : Kd.C (Kd.int .i64) w A1 l1.length l1) (hc1 : l1.length ≤ c1) (h : impl_IsSystem.f k l0 l1 a2 = some r) :
 Calls Try.prog 71 #[.slice A0 l0.length c0, .slice A1 l1.length c1, .int .i64 a2] w fun e w' => e = .returned (.bool r) ∧ Drawn0 w w' := by
 have HR0:=aM hr0;have HC0:=aM hc0;clear hr0 hc0;have HR1:=aM hr1;have HC1:=aM hc1;clear hr1 hc1;have H:((impl_IsMatrix.f k l0 a2).bind fun t379=>(if t379=true then (if (l1.length:Int)=(l0.length:Int) then ((impl_allIn.f k l1 (-1000) 1000).bind fun t380=>(some t380)) else (some false)) else (some false)))=some r:=h;clear h;obtain ⟨t379,A4,H⟩:=bz H;by_cases c5:t379=true
 ·subst c5;replace H:=ifT H;by_cases c6:(l1.length:Int)=(l0.length:Int)
  ·rw [if_pos c6] at H;have c6b0:((l1.length:Int) == (l0.length:Int))=true:=beq_iff_eq.mpr c6;have c6b1:((l1.length:Int) != (l0.length:Int))=false:=bne_eq_false_iff_eq.mpr c6;have c6b2:(l1.length == l0.length)=true:=(by first|simpa using c6|(simp at c6 ⊢;omega));clear c6;obtain ⟨t380,A7,H⟩:=bz H;obtain rfl:=Option.some.inj H;go_enter Try.func71,Try.ntmps71;go_wp2_with (first|((with_reducible refine gate_callee (f:=40) rfl ?_);refine gm (some 9) Try.func40 #[.slice A0 l0.length c0,.int .i64 a2] ?_;(with_reducible refine (impl_IsMatrix.calls k _ _ l0 a2 true _ ?side1 ?side2 A4.out).mono ?_);(case side1=>exact zc HR0.out);(case side2=>exact HC0.out);rintro e w' ⟨rfl,⟨nd,rfl⟩⟩;refine ⟨_,rfl,?_⟩)|(go_at_call 82;(with_reducible refine (impl_allIn.calls k _ _ l1 (-1000) 1000 t380 _ ?side1 ?side2 A7.out).mono ?_);(case side1=>exact zc HR1.out);(case side2=>exact HC1.out);rintro e w' ⟨rfl,⟨nd,rfl⟩⟩));go_ret;exact ⟨zt,zz⟩
  ·rw [if_neg c6] at H;have c6b0:((l1.length:Int) == (l0.length:Int))=false:=beq_eq_false_iff_ne.mpr c6;have c6b1:((l1.length:Int) != (l0.length:Int))=true:=bne_iff_ne.mpr c6;have c6b2:(l1.length == l0.length)=false:=(by first|simpa using c6|(simp at c6 ⊢;omega));obtain rfl:=Option.some.inj H;go_enter Try.func71,Try.ntmps71;go_wp2_with (first|((with_reducible refine gate_callee (f:=40) rfl ?_);refine gm (some 9) Try.func40 #[.slice A0 l0.length c0,.int .i64 a2] ?_;(with_reducible refine (impl_IsMatrix.calls k _ _ l0 a2 true _ ?side1 ?side2 A4.out).mono ?_);(case side1=>exact zc HR0.out);(case side2=>exact HC0.out);rintro e w' ⟨rfl,⟨nd,rfl⟩⟩;refine ⟨_,rfl,?_⟩));go_ret;exact ⟨zt,zz⟩
 ·replace c5:=Bool.eq_false_iff.mpr c5;subst c5;replace H:=ifF H;obtain rfl:=Option.some.inj H;go_enter Try.func71,Try.ntmps71;go_wp2_with (first|((with_reducible refine gate_callee (f:=40) rfl ?_);refine gm (some 9) Try.func40 #[.slice A0 l0.length c0,.int .i64 a2] ?_;(with_reducible refine (impl_IsMatrix.calls k _ _ l0 a2 false _ ?side1 ?side2 A4.out).mono ?_);(case side1=>exact zc HR0.out);(case side2=>exact HC0.out);rintro e w' ⟨rfl,⟨nd,rfl⟩⟩;refine ⟨_,rfl,?_⟩));go_ret;exact ⟨zt,zz⟩
end Go.Proofs.Ytojkepidkmkmpaa.PFnExactValueOf
end
section
namespace Go.Proofs.Ytojkepidkmkmpaa.PFnExactValueOf
open Go.Proofs.YtojkepidkmkmpaaW.PrintWords.Aside0 renaming mk → aM
open List renaming setIfInBounds_toArray → qa, set_cons_zero → qz, set_cons_succ → qs
open Bool renaming true → tt, false → ff
open Option renaming bind_eq_some_iff → bE

open Go.RowKit Go.Proofs.YtojkepidkmkmpaaW.PrintWords Go.Proofs.YtojkepidkmkmpaaW.PrintLast Go.Proofs.YtojkepidkmkmpaaW.PrintMore
attribute [local go_sem] max2_int min2_int max_two min_two max_three min_three max_four min_four
set_option linter.unusedVariables false
set_option linter.unusedSimpArgs false
mutual
def impl_solved.l0 : Nat → List Int → Int → List (List Int) → List (List Int) → Int → Int → Option ((List (List Int)) × Bool)
 | 0, _, _, _, _, _, _ => none
 | k + 1, x1, x2, x8, x19, x20, x21 => if x21 < x20 then (if 0 ≤ x21 then (if x21 < (x19.length : Int) then ((slices_Clone_int_int_95.f (rd_L1 x19 x21)).bind fun t383 => (if x21 < (x1.length : Int) then ((some (([rd x1 x21] : List Int) : List Int)).bind fun y387 => (if t383.length + y387.length < 17592186044416 then ((some (([(t383 ++ y387)] : List (List Int)) : List (List Int))).bind fun y393 => (if x8.length + y393.length < 5864062014805 then (impl_solved.l0 k x1 x2 (x8 ++ y393) x19 x20 (wrap64 (x21 + 1))) else (none))) else (none))) else (none))) else (none)) else (none)) else ((impl_reduceAny.f k x8 (wrap64 (x2 + 1))).bind fun t399 => (impl_solved.l1 k x2 t399 t399 (t399.length : Int) 0))
def impl_solved.l1 : Nat → Int → List (List Int) → List (List Int) → Int → Int → Option ((List (List Int)) × Bool)
 | 0, _, _, _, _, _ => none
 | k + 1, x2, x11, x42, x43, x44 => if x44 < x43 then (if 0 ≤ x44 then (if x44 < (x42.length : Int) then ((impl_lead.f k (rd_L1 x42 x44)).bind fun t403 => (if t403 = x2 then (some (([] : List (List Int)), false)) else (impl_solved.l1 k x2 x11 x42 x43 (wrap64 (x44 + 1))))) else (none)) else (none)) else (some (x11, true))
end
def impl_solved.f (k : Nat) (l0 : List (List Int)) (l1 : List Int) (a2 : Int) : Option ((List (List Int)) × Bool) := (impl_IsSystem.f k l0 l1 a2).bind fun t381 => (if t381 = true then (impl_solved.l0 k l1 a2 ([] : List (List Int)) l0 (l0.length : Int) 0) else (some (([] : List (List Int)), false)))
def impl_solved.T7 : Bool × List (List Nat × List Nat) := (true, [([], []), ([], []), ([1], [1]), ([], []), ([], []), ([3, 4], [3, 4]), ([5], [5]), ([6], [6]), ([2, 7, 2], [2, 7]), ([8], [8]), ([0, 9, 8], [0, 9]), ([10, 10, 0, 1, 2, 3, 4, 5, 6, 7, 8, 9, 10], [0, 10])])
def impl_solved.B7 : List Nat := [0, 0, 2, 0, 0, 24, 56, 120, 254, 510, 1023, 2047]
theorem impl_solved.tab7 : rtab .any (opsOf Try.f58 7) = impl_solved.T7 := by kernel_rfl
theorem impl_solved.bits7 : waitsOk impl_solved.T7.2 impl_solved.B7 = true := by kernel_rfl
set_option maxHeartbeats 8000000 in
set_option maxRecDepth 100000 in
theorem impl_solved.calls (k : Nat) (A0 : Option Addr) (c0 : Nat) (l0 : List (List Int)) (A1 : Option Addr) (c1 : Nat) (l1 : List Int) (a2 : Int) (r1 : List (List Int)) (r2 : Bool) (w : World) (hr0 : Kd.C (Kd.slice 3 (Kd.int .i64)) w A0 l0.length l0) (hc0 : l0.length ≤ c0) (hr1 : Kd.C (Kd.int .i64) w A1 l1.length l1) (hc1 : l1.length ≤ c1) (h : impl_solved.f k l0 l1 a2 = some (r1, r2)) :
 Calls Try.prog 58 #[.slice A0 l0.length c0, .slice A1 l1.length c1, .int .i64 a2] w fun e w' => ∃ v0_ : Value, e = .returned (.tuple #[v0_, .bool r2]) ∧ Kd.N (Kd.slice 3 (Kd.int .i64)) 23 w' w.heap.size (fun k_ => (w.heap.size ≤ k_)) v0_ r1 ∧ Below w.heap.size w w' := by
 have HR0:=aM hr0;have HC0:=aM hc0;clear hr0 hc0;have HR1:=aM hr1;have HC1:=aM hc1;clear hr1 hc1;have HB:=aM (Below.refl w.heap.size w);have H:((impl_IsSystem.f k l0 l1 a2).bind fun t381=>(if t381=true then (impl_solved.l0 k l1 a2 ([]:List (List Int)) l0 (l0.length:Int) 0) else (some (([]:List (List Int)),false))))=some (r1,r2):=h;clear h;obtain ⟨t381,A4,H⟩:=bz H;by_cases c5:t381=true
 ·subst c5;replace H:=ifT H;have H':=aM H;clear H;go_enter Try.func58,Try.ntmps58;go_wp2_with (first|((with_reducible refine gate_callee (f:=71) rfl ?_);refine gm (some 17) Try.func71 #[.slice A0 l0.length c0,.slice A1 l1.length c1,.int .i64 a2] ?_;(with_reducible refine (impl_IsSystem.calls k _ _ l0 _ _ l1 a2 true _ ?side1 ?side2 ?side3 ?side4 A4.out).mono ?_);(case side1=>exact zc HR0.out);(case side2=>exact HC0.out);(case side3=>exact zc HR1.out);(case side4=>exact HC1.out);rintro e w' ⟨rfl,⟨nd,rfl⟩⟩;refine ⟨_,rfl,?_⟩));go_loopg [8,21] k (fun kq v8 v21 w'=>∃(x8_1:List (List Int)) (x21_1:Int),v21 = .int .i64 x21_1∧Aside0 (impl_solved.l0 kq l1 a2 x8_1 l0 (l0.length:Int) x21_1=some (r1,r2))∧Aside0 (kq≤k)∧Aside0 (Kd.N (Kd.slice 3 (Kd.int .i64)) 23 w' w.heap.size (fun k_=>(w.heap.size≤k_)) v8 x8_1)∧Aside0 (Below w.heap.size w w'));(case atStart=>exact ⟨(([]:List (List Int))),(0),zt,H',⟨Nat.le_refl _⟩,⟨by first|exact Kd.S_nil _ _ _ _ _|exact Kd.N_nil _ _ _ _ _|exact Kd.V_nil _ _ _ _ _|exact Kd.Q_nil _ _ _ _ _|exact Kd.R_nil _ _ _ _ _⟩,⟨zb HB.out⟩⟩)
  case round=>
   clear H';(try clear c1);(try clear p2);(try clear c5);obtain ⟨x8_1,x21_1,rfl,HA,HK1,HO_8,HB⟩:=hrel;cases gk with
   | zero=>exact absurd HA.out (by simp [impl_solved.l0])
   | succ k1=>
    have H:=HA.out;clear HA;simp only [impl_solved.l0] at H;by_cases c6:x21_1<(l0.length:Int)
    ·rw [if_pos c6] at H;have c6b0:decide (x21_1<(l0.length:Int))=true:=decide_eq_true c6;clear c6;obtain ⟨c7b0,H⟩:=iN H;obtain ⟨c8b0,H⟩:=iN H;obtain ⟨t383,A9,H⟩:=bz H;obtain ⟨c10b0,H⟩:=iN H;obtain ⟨y387,hy387⟩:∃y_:List Int,y_=(([rd l1 x21_1]:List Int)):=⟨_,rfl⟩;replace H:(if t383.length+y387.length<17592186044416 then ((some (([(t383 ++ y387)]:List (List Int)):List (List Int))).bind fun y393=>(if x8_1.length+y393.length<5864062014805 then (impl_solved.l0 k1 l1 a2 (x8_1 ++ y393) l0 (l0.length:Int) (wrap64 (x21_1+1))) else (none))) else (none))=some (r1,r2):=(by first|(rw [hy387];with_reducible exact H)|(have H2_:=(Option.bind_some _ _).symm.trans H;rw [hy387];with_reducible exact H2_)|(have H2_:=(Option.bind_some _ _).symm.trans H;with_reducible exact H2_)|with_reducible exact H|(rw [hy387];exact H)|exact H);have Ny387:=aM hy387;clear hy387;by_cases c11:t383.length+y387.length<17592186044416
     ·rw [if_pos c11] at H;have LMc11:=aM c11;clear c11;obtain ⟨y390,hy390⟩:∃y_:List Int,y_=(t383 ++ y387):=⟨_,rfl⟩;replace H:((some (([y390]:List (List Int)):List (List Int))).bind fun y393=>(if x8_1.length+y393.length<5864062014805 then (impl_solved.l0 k1 l1 a2 (x8_1 ++ y393) l0 (l0.length:Int) (wrap64 (x21_1+1))) else (none)))=some (r1,r2):=(by first|(rw [hy390];with_reducible exact H)|(have H2_:=(Option.bind_some _ _).symm.trans H;rw [hy390];with_reducible exact H2_)|(have H2_:=(Option.bind_some _ _).symm.trans H;with_reducible exact H2_)|with_reducible exact H|(rw [hy390];exact H)|exact H);have Ny390:=aM hy390;clear hy390;obtain ⟨y393,hy393⟩:∃y_:List (List Int),y_=(([y390]:List (List Int))):=⟨_,rfl⟩;replace H:(if x8_1.length+y393.length<5864062014805 then (impl_solved.l0 k1 l1 a2 (x8_1 ++ y393) l0 (l0.length:Int) (wrap64 (x21_1+1))) else (none))=some (r1,r2):=(by first|(rw [hy393];with_reducible exact H)|(have H2_:=(Option.bind_some _ _).symm.trans H;rw [hy393];with_reducible exact H2_)|(have H2_:=(Option.bind_some _ _).symm.trans H;with_reducible exact H2_)|with_reducible exact H|(rw [hy393];exact H)|exact H);have Ny393:=aM hy393;clear hy393;by_cases c12:x8_1.length+y393.length<5864062014805
      ·rw [if_pos c12] at H;have LMc12:=aM c12;clear c12;obtain ⟨y396,hy396⟩:∃y_:List (List Int),y_=(x8_1 ++ y393):=⟨_,rfl⟩;replace H:(impl_solved.l0 k1 l1 a2 y396 l0 (l0.length:Int) (wrap64 (x21_1+1)))=some (r1,r2):=(by first|(rw [hy396];with_reducible exact H)|(have H2_:=(Option.bind_some _ _).symm.trans H;rw [hy396];with_reducible exact H2_)|(have H2_:=(Option.bind_some _ _).symm.trans H;with_reducible exact H2_)|with_reducible exact H|(rw [hy396];exact H)|exact H);have Ny396:=aM hy396;clear hy396;have H':=aM H;clear H;have p382:0≤(x21_1:Int):=zd;have q382:x21_1<(l0.length:Int):=zd;obtain ⟨ad382,A382_0,c382_0,e382,hx382_0,hl382_0,hi382_0⟩:=at_L1 HR0.out x21_1 p382 q382;cases e382;replace hx382_0:=(HB.out.cell (World.block_lt_of_cell? w _ hx382_0)).trans hx382_0;have HR382_0:=aM hi382_0;have HC382_0:=aM hl382_0;clear hi382_0 hl382_0;replace p382:=eq_true p382;replace q382:=eq_true q382;obtain ⟨Ao13,co13,eo13⟩:=Kd.N_slice HO_8.out;subst eo13;(try go_wp2);replace HO_8:=aM (Kd.N_drew HO_8.out);replace HB:=aM (below_drew1 HB.out);have p386:0≤(x21_1:Int):=zd;have q386:x21_1<(l1.length:Int):=zd;obtain ⟨ad386,e386,hx386_0⟩:=Kd.at_int HR1.out x21_1 p386 q386;have hw386_0:=hx386_0;cases e386;replace hx386_0:=(HB.out.cell (World.block_lt_of_cell? w _ hx386_0)).trans hx386_0;replace p386:=eq_true p386;replace q386:=eq_true q386;refine start_ (n:=12) (S:=fun w'=>w'.cell? (ad386.add (x21_1).toNat)=some (.int .i64 (rd l1 x21_1))) (ds:=[]) #[ff,ff,ff,ff,ff,ff,ff,ff,ff,ff,ff,ff] (by kernel_rfl) rfl rfl (((HB.out.cell (World.block_lt_of_cell? w _ hw386_0)).trans hw386_0)) (fun hHeld=>?_);refine with_tabW impl_solved.tab7 impl_solved.bits7 (fun HT_ HW_=>?_);generalize wr.drew=w14 at HO_8 HB hx386_0 hHeld ⊢;refine pu 0 (some 26) #[tt,ff,ff,ff,ff,ff,ff,ff,ff,ff,ff,ff] rfl rfl HT_ ?_;refine pu 1 (some 27) #[tt,tt,ff,ff,ff,ff,ff,ff,ff,ff,ff,ff] rfl rfl HT_ ?_;refine pu 3 (some 29) #[tt,tt,ff,tt,ff,ff,ff,ff,ff,ff,ff,ff] rfl rfl HT_ ?_;refine pu 4 (some 30) #[tt,tt,ff,tt,tt,ff,ff,ff,ff,ff,ff,ff] rfl rfl HT_ ?_;refine pu 5 (some 31) #[tt,tt,ff,tt,tt,tt,ff,ff,ff,ff,ff,ff] rfl rfl HT_ ?_;refine take_ (i:=6) (N:=some 32) (v:=?_) (a':=?_) #[tt,tt,ff,tt,tt,tt,tt,ff,ff,ff,ff,ff] rfl rfl (take_ofW HT_.out HW_.out (by kernel_rfl)) (fun _ _ _ h=>h) (Or.inl ⟨by rfl,?_⟩) hHeld ?_ ?_;rotate_left
       ·intro w' s0;go_simp;(with_reducible rfl)
       rotate_left
       ·simp only [Act.put,qa,qz,qs,i64_w,i32_w];rfl
       refine join_ (σ:=Value × Value) 4 #[tt,tt,tt,tt,tt,tt,tt,tt,ff,ff,ff,ff] (fun s_=>[(28,s_.1),(33,s_.2)]) (fun s_ w'=>(w'.cell? (ad386.add (x21_1).toNat)=some (.int .i64 (rd l1 x21_1)))∧(Kd.R (Kd.int .i64) 3 w' w.heap.size (fun k_=>(w.heap.size≤k_)∧some k_≠(s_.2:Value).ownBlock) s_.1 t383)∧(Kd.R (Kd.int .i64) 3 w' w.heap.size (fun k_=>(w.heap.size≤k_)∧some k_≠(s_.1:Value).ownBlock) s_.2 y387)∧(Kd.N (Kd.slice 3 (Kd.int .i64)) 23 w' w.heap.size (fun k_=>(w.heap.size≤k_)∧some k_≠(s_.1:Value).ownBlock∧some k_≠(s_.2:Value).ownBlock) (.slice Ao13 x8_1.length co13) x8_1)∧(Below w.heap.size w w')) ?_ ?_;rotate_left
       ·intro hCont;refine two_ (i:=2) (j:=7) (Ni:=some 28) (Nj:=some 33) #[tt,tt,tt,tt,tt,tt,tt,ff,ff,ff,ff,ff] #[tt,tt,ff,tt,tt,tt,tt,tt,ff,ff,ff,ff] rfl rfl rfl rfl (two_of HT_.out (by kernel_rfl)) (by decide) (by decide) (fun K hK=>?_) (fun K hK=>?_)
        ·skip
         refine gs Try.func95 #[.slice A382_0 (rd_L1 l0 x21_1).length c382_0] ?_;(with_reducible refine (slices_Clone_int_int_95.calls _ _ (rd_L1 l0 x21_1) t383 _ ?side1 ?side2 A9.out).mono ?_);(case side1=>exact zc (Kd.C_below HR382_0.out HB.out));(case side2=>exact HC382_0.out);rintro e w15 ⟨v384,rfl,ho0,hb⟩;refine ⟨_,rfl,?_⟩;replace HO_8:=aM (Kd.N_elder' (zn HO_8.out) (Kd.R_base ho0) hb);have HO385:=aM (Kd.R_lower (Kd.R_newM (M:=fun k_=>(w.heap.size≤k_)) ho0 (below_size (zb HB.out)) (fun k_ h_=>h_)) (below_size (zb HB.out)));replace HB:=aM (below_step (zb HB.out) hb);(try clear hb);(try clear hb2);(try clear hk);(try clear hi);(try clear ho0);refine hK.out _ _ (((HB.out.cell (World.block_lt_of_cell? w _ hw386_0)).trans hw386_0)) (fun hHeld=>?_);clear hK K;refine norm_ (a':=?_) ?_ ?_;rotate_left
         ·show Act.put _ (some 28) _=_;simp only [Act.put,qa,qz,qs,i64_w,i32_w];rfl
         refine one_ (i:=7) (N:=some 33) #[tt,tt,tt,tt,tt,tt,tt,tt,ff,ff,ff,ff] rfl rfl (one_of HT_.out (by kernel_rfl)) (by decide) (fun K hK=>?_);refine Kd.R_lit_step (Kd.int .i64) _ 3 ?hg (N:=33) ?hd (xs:=([rd l1 x21_1]:List Int)) (inner:=[.int .i64 (rd l1 x21_1)]) (ok:=fun _=>True) (okp:=fun _=>True) ?hr ?hp (fun _ hk=>hk) trivial (Below.refl _ _) (Nat.le_refl _) (by simp) ?_;(case hd=>rfl);(case hg=>rfl);(case hr=>first|(go_simp;done)|(go_simp;rfl));(case hp=>exact (Reps.one (show Kd.M (Kd.int .i64) _ _ _ (rd l1 x21_1) [.int .i64 (rd l1 x21_1)] from rfl) (Reps.none _ _)));intro v388 w16 ho17 hb hg_ hnew_;clear hg_ hnew_;(first|rw [← Ny387.out] at ho17|(simp only [Int.reduceToNat] at ho17;rw [← Ny387.out] at ho17));replace HO_8:=aM (Kd.N_elder' (zn HO_8.out) (Kd.R_base ho17) hb);have HO389:=aM (Kd.R_lower (Kd.R_new' (Kd.R_newM (M:=fun k_=>(w.heap.size≤k_)) ho17 (below_size (zb HB.out)) (fun k_ h_=>h_)) (Kd.R_lt (zr HO385.out))) (below_size (zb HB.out)));replace HO385:=aM (Kd.R_elder' (zr HO385.out) (Kd.R_base ho17) hb);replace HB:=aM (below_step (zb HB.out) hb);clear hb ho17;refine hK.out _ _ (((HB.out.cell (World.block_lt_of_cell? w _ hw386_0)).trans hw386_0)) (fun hHeld=>?_);clear hK K;refine norm_ (a':=?_) ?_ ?_;rotate_left
         ·show Act.put _ (some 33) _=_;simp only [Act.put,qa,qz,qs,i64_w,i32_w];rfl
         exact norm_ (by simp only [putAll,Act.put,qa,qz,qs]) (hCont (v384,v388) _ ⟨hHeld,(by (with_reducible repeat (first|apply Kd.R_alloc|apply Kd.R_drewN|apply Kd.R_drew));exact Kd.R_mono HO385.out (fun _ hk=>⟨hk.1.1,hk.2⟩)),(by (with_reducible repeat (first|apply Kd.R_alloc|apply Kd.R_drewN|apply Kd.R_drew));exact Kd.R_mono HO389.out (fun _ hk=>⟨hk.1.1,hk.2⟩)),(by (with_reducible repeat (first|apply Kd.N_alloc|apply Kd.N_drewN|apply Kd.N_drew));exact Kd.N_mono HO_8.out (fun _ hk=>⟨hk.1.1,⟨hk.1.2,hk.2⟩⟩)),(zb HB.out)⟩)
        ·skip
         refine Kd.R_lit_step (Kd.int .i64) _ 3 ?hg (N:=33) ?hd (xs:=([rd l1 x21_1]:List Int)) (inner:=[.int .i64 (rd l1 x21_1)]) (ok:=fun _=>True) (okp:=fun _=>True) ?hr ?hp (fun _ hk=>hk) trivial (Below.refl _ _) (Nat.le_refl _) (by simp) ?_;(case hd=>rfl);(case hg=>rfl);(case hr=>first|(go_simp;done)|(go_simp;rfl));(case hp=>exact (Reps.one (show Kd.M (Kd.int .i64) _ _ _ (rd l1 x21_1) [.int .i64 (rd l1 x21_1)] from rfl) (Reps.none _ _)));intro v388 w15 ho16 hb hg_ hnew_;clear hg_ hnew_;(first|rw [← Ny387.out] at ho16|(simp only [Int.reduceToNat] at ho16;rw [← Ny387.out] at ho16));replace HO_8:=aM (Kd.N_elder' (zn HO_8.out) (Kd.R_base ho16) hb);have HO389:=aM (Kd.R_lower (Kd.R_newM (M:=fun k_=>(w.heap.size≤k_)) ho16 (below_size (zb HB.out)) (fun k_ h_=>h_)) (below_size (zb HB.out)));replace HB:=aM (below_step (zb HB.out) hb);clear hb ho16;refine hK.out _ _ (((HB.out.cell (World.block_lt_of_cell? w _ hw386_0)).trans hw386_0)) (fun hHeld=>?_);clear hK K;refine norm_ (a':=?_) ?_ ?_;rotate_left
         ·show Act.put _ (some 33) _=_;simp only [Act.put,qa,qz,qs,i64_w,i32_w];rfl
         refine one_ (i:=2) (N:=some 28) #[tt,tt,tt,tt,tt,tt,tt,tt,ff,ff,ff,ff] rfl rfl (one_of HT_.out (by kernel_rfl)) (by decide) (fun K hK=>?_);refine gs Try.func95 #[.slice A382_0 (rd_L1 l0 x21_1).length c382_0] ?_;(with_reducible refine (slices_Clone_int_int_95.calls _ _ (rd_L1 l0 x21_1) t383 _ ?side1 ?side2 A9.out).mono ?_);(case side1=>exact zc (Kd.C_below HR382_0.out HB.out));(case side2=>exact HC382_0.out);rintro e w17 ⟨v384,rfl,ho0,hb⟩;refine ⟨_,rfl,?_⟩;replace HO_8:=aM (Kd.N_elder' (zn HO_8.out) (Kd.R_base ho0) hb);have HO385:=aM (Kd.R_lower (Kd.R_new' (Kd.R_newM (M:=fun k_=>(w.heap.size≤k_)) ho0 (below_size (zb HB.out)) (fun k_ h_=>h_)) (Kd.R_lt (zr HO389.out))) (below_size (zb HB.out)));replace HO389:=aM (Kd.R_elder' (zr HO389.out) (Kd.R_base ho0) hb);replace HB:=aM (below_step (zb HB.out) hb);(try clear hb);(try clear hb2);(try clear hk);(try clear hi);(try clear ho0);refine hK.out _ _ (((HB.out.cell (World.block_lt_of_cell? w _ hw386_0)).trans hw386_0)) (fun hHeld=>?_);clear hK K;refine norm_ (a':=?_) ?_ ?_;rotate_left
         ·show Act.put _ (some 28) _=_;simp only [Act.put,qa,qz,qs,i64_w,i32_w];rfl
         exact norm_ (by simp only [putAll,Act.put,qa,qz,qs]) (hCont (v384,v388) _ ⟨hHeld,(by (with_reducible repeat (first|apply Kd.R_alloc|apply Kd.R_drewN|apply Kd.R_drew));exact Kd.R_mono HO385.out (fun _ hk=>⟨hk.1.1,hk.2⟩)),(by (with_reducible repeat (first|apply Kd.R_alloc|apply Kd.R_drewN|apply Kd.R_drew));exact Kd.R_mono HO389.out (fun _ hk=>⟨hk.1.1,hk.2⟩)),(by (with_reducible repeat (first|apply Kd.N_alloc|apply Kd.N_drewN|apply Kd.N_drew));exact Kd.N_mono HO_8.out (fun _ hk=>⟨hk.1.1,⟨hk.2,hk.1.2⟩⟩)),(zb HB.out)⟩)
       rintro ⟨v384,v388⟩ w18 ⟨hS_,h0_,h1_,h2_,h3_⟩;have HO385:Aside0 (Kd.R (Kd.int .i64) 3 w18 w.heap.size (fun k_=>(w.heap.size≤k_)∧some k_≠(v388:Value).ownBlock) v384 t383):=⟨h0_⟩;have HO389:Aside0 (Kd.R (Kd.int .i64) 3 w18 w.heap.size (fun k_=>(w.heap.size≤k_)∧some k_≠(v384:Value).ownBlock) v388 y387):=⟨h1_⟩;replace HO_8:Aside0 (Kd.N (Kd.slice 3 (Kd.int .i64)) 23 w18 w.heap.size (fun k_=>(w.heap.size≤k_)∧some k_≠(v384:Value).ownBlock∧some k_≠(v388:Value).ownBlock) (.slice Ao13 x8_1.length co13) x8_1):=⟨h2_⟩;replace HB:Aside0 (Below w.heap.size w w18):=⟨h3_⟩;clear h0_ h1_ h2_ h3_;have hHeld:w18.cell? (ad386.add (x21_1).toNat)=some (.int .i64 (rd l1 x21_1)):=hS_;obtain ⟨Ao20,co20,eo20⟩:=Kd.R_slice HO389.out;(first|subst eo20|(injection eo20 with f1_ f2_ f3_;have f4_:=f1_.symm;have f5_:=f3_.symm;clear f1_ f2_ f3_;subst f4_;subst f5_));refine norm_ (a':=?_) ?_ ?_;rotate_left
       ·simp only [putAll,Act.put,qa,qz,qs];rfl
       refine one_ (i:=8) (N:=some 34) #[tt,tt,tt,tt,tt,tt,tt,tt,tt,ff,ff,ff] rfl rfl (one_of HT_.out (by kernel_rfl)) (by decide) (fun K hK=>?_);refine Kd.R_append_rows_step (Kd.int .i64) (w0:=w) w.heap.size (by rfl) (.tmp 28) (.tmp 33) 23 3 (.int .i64 0) 8 rfl Try.underlying23 info3 rfl (by decide) (by omega) v384 t383 y387 _ _ _ (fun k_=>(w.heap.size≤k_)∧some k_≠(.slice Ao20 y387.length co20:Value).ownBlock) (fun _=>False) rfl rfl ?aO ?aR (fun _ _ h=>h) (fun _ h=>h.elim) ?aF ?aB ?aS ?aL ?_;(case aR=>exact zc (Kd.R_reads' HO389.out).2.2);(case aB=>exact (zb HB.out));(case aF=>exact (fun k_ hk=>⟨(Nat.le_trans (below_size (zb HB.out)) hk),Kd.fresh' (Kd.R_lt (zr HO389.out)) k_ hk⟩));(case aO=>exact (zr HO385.out));(case aS=>exact (below_size (zb HB.out)));(case aL=>have:=LMc11.out;omega);intro v391 w19 ho hb hg hat;rw [← Ny390.out] at ho;replace HO_8:=aM (Kd.N_afterv (ok:=(fun k_=>(w.heap.size≤k_)∧some k_≠(.slice Ao20 y387.length co20:Value).ownBlock)) (by (with_reducible repeat (first|apply Kd.N_alloc|apply Kd.N_drewN|apply Kd.N_drew));exact Kd.N_mono HO_8.out (fun _ hk=>⟨⟨hk.1,hk.2.2⟩,hk.2.1⟩)) hg hat);replace HO389:=aM (Kd.R_after (ok:=(fun k_=>(w.heap.size≤k_))) (zr HO389.out) hg hat);replace HB:=aM (hb);have HO392:=aM (ho);clear HO385 ho hb hg hat;obtain ⟨Ao21,co21,eo21⟩:=Kd.R_slice HO392.out;(first|subst eo21|(injection eo21 with f1_ f2_ f3_;have f4_:=f1_.symm;have f5_:=f3_.symm;clear f1_ f2_ f3_;subst f4_;subst f5_));refine hK.out _ _ (((HB.out.cell (World.block_lt_of_cell? w _ hw386_0)).trans hw386_0)) (fun hHeld=>?_);clear hK K;refine norm_ (a':=?_) ?_ ?_;rotate_left
       ·show Act.put _ (some 34) _=_;simp only [Act.put,qa,qz,qs,i64_w,i32_w];rfl
       refine one_ (i:=9) (N:=some 35) #[tt,tt,tt,tt,tt,tt,tt,tt,tt,tt,ff,ff] rfl rfl (one_of HT_.out (by kernel_rfl)) (by decide) (fun K hK=>?_);refine Kd.N_lit_step (Kd.slice 3 (Kd.int .i64)) _ 23 ?hg (N':=35) ?hd (xs:=([y390]:List (List Int))) (inner:=[.slice Ao21 y390.length co21]) (ok:=(fun k_=>(w.heap.size≤k_)∧some k_≠(.slice Ao13 x8_1.length co13:Value).ownBlock∧some k_≠(.slice Ao20 y387.length co20:Value).ownBlock)) (okp:=(fun k_=>(w.heap.size≤k_)∧some k_≠(.slice Ao13 x8_1.length co13:Value).ownBlock∧some k_≠(.slice Ao20 y387.length co20:Value).ownBlock)) ?hr ?hp (fun _ hk=>hk) ((show ∀k_,w19.heap.size≤k_→(fun k_=>(w.heap.size≤k_)∧some k_≠(.slice Ao13 x8_1.length co13:Value).ownBlock∧some k_≠(.slice Ao20 y387.length co20:Value).ownBlock) k_ from fun k_ hk=>⟨(Nat.le_trans (below_size (zb HB.out)) hk),Kd.fresh' (Kd.N_lt (zn HO_8.out)) k_ hk,Kd.fresh' (Kd.R_lt (zr HO389.out)) k_ hk⟩) _ (Nat.le_refl _)) (Below.refl _ _) (Nat.le_refl _) (by simp) ?_;(case hd=>rfl);(case hg=>rfl);(case hr=>first|(go_simp;done)|(go_simp;rfl));(case hp=>exact (Reps.one (show Kd.FK (Kd.slice 3 (Kd.int .i64)) _ _ y390 [.slice Ao21 y390.length co21] from (Kd.FK_slice_mk (Kd.R_reads' (Kd.R_mono (ok':=(fun k_=>(w.heap.size≤k_)∧some k_≠(.slice Ao13 x8_1.length co13:Value).ownBlock∧some k_≠(.slice Ao20 y387.length co20:Value).ownBlock)) (Kd.R_apart' (HO392.out) (Kd.N_typed HO_8.out) (by decide)) (fun k_ hk=>⟨hk.1.1,⟨hk.2,hk.1.2⟩⟩))).2.1 (Kd.R_F (Kd.R_mono (ok':=(fun k_=>(w.heap.size≤k_)∧some k_≠(.slice Ao13 x8_1.length co13:Value).ownBlock∧some k_≠(.slice Ao20 y387.length co20:Value).ownBlock)) (Kd.R_apart' (HO392.out) (Kd.N_typed HO_8.out) (by decide)) (fun k_ hk=>⟨hk.1.1,⟨hk.2,hk.1.2⟩⟩))))) (Reps.none _ _)));intro v394 w22 ho23 hb hg_ hnew_;clear hg_ hnew_;(first|rw [← Ny393.out] at ho23|(simp only [Int.reduceToNat] at ho23;rw [← Ny393.out] at ho23));replace HO_8:=aM (Kd.N_elder' (zn HO_8.out) (Kd.N_base ho23) hb);replace HO389:=aM (Kd.R_below (zr HO389.out) hb);have HO395:=aM (Kd.N_lower ho23 (below_size (zb HB.out)));replace HB:=aM (below_step (zb HB.out) hb);clear HO392 hb ho23;obtain ⟨Ao25,co25,eo25⟩:=Kd.N_slice HO395.out;(first|subst eo25|(injection eo25 with f1_ f2_ f3_;have f4_:=f1_.symm;have f5_:=f3_.symm;clear f1_ f2_ f3_;subst f4_;subst f5_));refine hK.out _ _ (((HB.out.cell (World.block_lt_of_cell? w _ hw386_0)).trans hw386_0)) (fun hHeld=>?_);clear hK K;refine norm_ (a':=?_) ?_ ?_;rotate_left
       ·show Act.put _ (some 35) _=_;simp only [Act.put,qa,qz,qs,i64_w,i32_w];rfl
       refine one_ (i:=10) (N:=some 36) #[tt,tt,tt,tt,tt,tt,tt,tt,tt,tt,tt,ff] rfl rfl (one_of HT_.out (by kernel_rfl)) (by decide) (fun K hK=>?_);refine Kd.N_append_rows_step (Kd.slice 3 (Kd.int .i64)) (w0:=w) w.heap.size (by rfl) (.tmp 26) (.tmp 35) 22 23 (.slice none 0 0) 24 rfl Try.underlying22 info23 rfl (by decide) (by omega) (.slice Ao13 x8_1.length co13) x8_1 y393 _ _ _ (fun k_=>(w.heap.size≤k_)∧some k_≠(.slice Ao20 y387.length co20:Value).ownBlock) (fun k_=>((fun k_=>(w.heap.size≤k_)∧some k_≠(.slice Ao20 y387.length co20:Value).ownBlock)) k_∧some k_≠(.slice Ao13 x8_1.length co13:Value).ownBlock) rfl rfl ?aO ?aR (fun _ hk=>hk) ?aF ?aB ?aS ?aL ?_;(case aR=>exact (by skip;exact Kd.N_F (Kd.N_mono (ok':=(fun k_=>((fun k_=>(w.heap.size≤k_)∧some k_≠(.slice Ao20 y387.length co20:Value).ownBlock)) k_∧some k_≠(.slice Ao13 x8_1.length co13:Value).ownBlock)) (HO395.out) (fun k_ hk=>⟨⟨hk.1,hk.2.2⟩,hk.2.1⟩))));(case aB=>exact (zb HB.out));(case aF=>exact (fun k_ hk=>⟨(Nat.le_trans (below_size (zb HB.out)) hk),Kd.fresh' (Kd.R_lt (zr HO389.out)) k_ hk⟩));(case aO=>exact (by (with_reducible repeat (first|apply Kd.N_alloc|apply Kd.N_drewN|apply Kd.N_drew));exact Kd.N_mono HO_8.out (fun _ hk=>⟨hk.1.1.1,hk.1.1.2⟩)));(case aS=>exact (below_size (zb HB.out)));(case aL=>have:=LMc12.out;omega);intro v397 w24 ho hb hg hat;rw [← Ny396.out] at ho;replace HO389:=aM (Kd.R_over' (zr HO389.out) (Kd.N_typed (zn HO_8.out)) (by decide) hg);replace HO395:=aM (Kd.N_afterv (ok:=(fun k_=>(w.heap.size≤k_)∧some k_≠(.slice Ao20 y387.length co20:Value).ownBlock)) (by (with_reducible repeat (first|apply Kd.N_alloc|apply Kd.N_drewN|apply Kd.N_drew));exact Kd.N_mono HO395.out (fun _ hk=>⟨⟨hk.1,hk.2.2⟩,hk.2.1⟩)) hg hat);replace HB:=aM (hb);have HO398:=aM (ho);clear HO_8 ho hb hg hat;refine hK.out _ _ (((HB.out.cell (World.block_lt_of_cell? w _ hw386_0)).trans hw386_0)) (fun hHeld=>?_);clear hK K;refine norm_ (a':=?_) ?_ ?_;rotate_left
       ·show Act.put _ (some 36) _=_;simp only [Act.put,qa,qz,qs,i64_w,i32_w];rfl
       refine pu 11 (some 8) #[tt,tt,tt,tt,tt,tt,tt,tt,tt,tt,tt,tt] rfl rfl HT_ ?_;refine done_ (done_of HT_.out (by kernel_rfl)) ?_;(try go_wp2);go_roundg k1;(case measure=>have:=HK1.out;omega);(case rel=>exact ⟨(y396),(wrap64 (x21_1+1)),zt,H',⟨by have:=HK1.out;omega⟩,⟨by (with_reducible repeat (first|apply Kd.N_alloc|apply Kd.N_drewN|apply Kd.N_drew));exact Kd.N_mono HO398.out (fun _ hk=>hk.1)⟩,⟨zb HB.out⟩⟩)
      ·rw [if_neg c12] at H;exact absurd H (by simp)
     ·rw [if_neg c11] at H;exact absurd H (by simp)
    ·rw [if_neg c6] at H;have c6b0:decide (x21_1<(l0.length:Int))=false:=decide_eq_false c6;clear c6;obtain ⟨t399,A26,H⟩:=bz H;have H':=aM H;clear H;obtain ⟨Ao27,co27,eo27⟩:=Kd.N_slice HO_8.out;subst eo27;go_wp2_with (first|((with_reducible refine gate_callee (f:=77) rfl ?_);refine gm (some 41) Try.func77 #[.slice Ao27 x8_1.length co27,.int .i64 (wrap64 (a2+1))] ?_;(with_reducible refine (impl_reduceAny.calls k1 _ _ x8_1 (wrap64 (a2+1)) t399 _ ?side1 ?side2 A26.out).mono ?_);(case side1=>exact zc (Kd.N_reads' HO_8.out).2.2);(case side2=>exact (Kd.N_reads' HO_8.out).2.1);rintro e w28 ⟨v400,rfl,ho0,hb⟩;refine ⟨_,rfl,?_⟩;have HO401:=aM (Kd.N_lower (Kd.N_mono (ok':=fun k_=>(w.heap.size≤k_)∧some k_≠(.slice Ao27 x8_1.length co27:Value).ownBlock) (Kd.S_N (Kd.S_bound ho0)) (fun k_ hk_=>⟨(Nat.le_trans (below_size (zb HB.out)) hk_.2.1),(Kd.fresh' (Kd.N_lt (zn HO_8.out)) k_ hk_.2.1)⟩)) (below_size (zb HB.out)));replace HO_8:=aM (Kd.N_elder' (zn HO_8.out) (by first|exact Kd.N_base ho0|exact Kd.S_base ho0) hb);replace HB:=aM (below_step (zb HB.out) hb);(try clear hb);(try clear hb2);(try clear hk);(try clear hi);(try clear ho0);obtain ⟨Ao29,co29,eo29⟩:=Kd.N_slice HO401.out;subst eo29));go_loopg [44] k1 (fun kq v44 w'=>∃(x44_2:Int),v44 = .int .i64 x44_2∧Aside0 (impl_solved.l1 kq a2 t399 t399 (t399.length:Int) x44_2=some (r1,r2))∧Aside0 (kq≤k1)∧Aside0 (Kd.N (Kd.slice 3 (Kd.int .i64)) 23 w' w.heap.size (fun k_=>(w.heap.size≤k_)) (.slice Ao29 t399.length co29) t399)∧Aside0 (Kd.N (Kd.slice 3 (Kd.int .i64)) 23 w' w.heap.size (fun k_=>(w.heap.size≤k_)) (.slice Ao29 t399.length co29) t399)∧Aside0 (Below w.heap.size w w'));(case atStart=>exact ⟨(0),zt,H',⟨Nat.le_refl _⟩,⟨by (with_reducible repeat (first|apply Kd.N_alloc|apply Kd.N_drewN|apply Kd.N_drew));exact Kd.N_mono HO401.out (fun _ hk=>hk.1)⟩,⟨by (with_reducible repeat (first|apply Kd.N_alloc|apply Kd.N_drewN|apply Kd.N_drew));exact Kd.N_mono HO401.out (fun _ hk=>hk.1)⟩,⟨zb HB.out⟩⟩)
     case round=>
      clear H';(try clear c1);(try clear p2);(try clear c3);(try clear p3);(try clear q3);(try clear hx3);(try clear c5);(try clear c6);(try clear c6b0);(try clear p6);(try clear c7);(try clear c7b0);(try clear c8);(try clear c8b0);(try clear c9);(try clear c10);(try clear c10b0);(try clear c11);(try clear c12);(try clear hx382_0);(try clear hx386_0);(try clear p2);(try clear p382);(try clear p386);(try clear q382);(try clear q386);obtain ⟨x44_2,rfl,HA,HK2,HO_11,HO_42,HB⟩:=hrel;cases gk with
      | zero=>exact absurd HA.out (by simp [impl_solved.l1])
      | succ k2=>
       have H:=HA.out;clear HA;simp only [impl_solved.l1] at H;by_cases c30:x44_2<(t399.length:Int)
       ·rw [if_pos c30] at H;have c30b0:decide (x44_2<(t399.length:Int))=true:=decide_eq_true c30;clear c30;obtain ⟨c31b0,H⟩:=iN H;obtain ⟨c32b0,H⟩:=iN H;obtain ⟨t403,A33,H⟩:=bz H;by_cases c34:t403=a2
        ·rw [if_pos c34] at H;have c34b0:(t403 == a2)=true:=beq_iff_eq.mpr c34;have c34b1:(t403 != a2)=false:=bne_eq_false_iff_eq.mpr c34;clear c34;simp only [Option.some.injEq,Prod.mk.injEq] at H;obtain ⟨rfl,rfl⟩:=H;have p402:0≤(x44_2:Int):=zd;have q402:x44_2<(t399.length:Int):=zd;obtain ⟨ad402,A402_0,c402_0,e402,hx402_0,hl402_0,hi402_0⟩:=at_L1 (Kd.N_reads' HO_42.out).2.2 x44_2 p402 q402;cases e402;obtain ⟨ce402,hce402,hMe402,hcc402⟩:=Kd.N_get HO_42.out [] x44_2 p402 (by first|exact q402|exact zd|(have e_:=(Kd.N_reads' HO_42.out).1;omega));obtain ⟨ua402_0,uc402_0,rfl,ul402_0,ge402_0⟩:=Kd.FK_slice_open hMe402;have hv402_0:=hcc402 0 _ rfl;rw [Nat.add_zero,show ((Kd.slice 3 (Kd.int .i64))).sz=1 from rfl,Nat.mul_one] at hv402_0;replace hv402_0:=Option.some.inj (hv402_0.symm.trans hx402_0);injection hv402_0 with hva_ hvn_ hvc_
         rw [hva_] at ge402_0;rw [hvc_] at ul402_0;have HL402_0:=aM (show Kd.V (Kd.int .i64) 3 _ w.heap.size _ _ (rd_L1 t399 x44_2) from Kd.V_mk ul402_0 ge402_0);clear hva_ hvn_ hvc_ ge402_0 ul402_0 hcc402 hce402;have HR402_0:=aM hi402_0;have HC402_0:=aM hl402_0;clear hi402_0 hl402_0;replace p402:=eq_true p402;replace q402:=eq_true q402;go_wp2_with (first|((with_reducible refine gate_callee (f:=59) rfl ?_);refine gm (some 49) Try.func59 #[.slice A402_0 (rd_L1 t399 x44_2).length c402_0] ?_;(with_reducible refine (impl_lead.calls k2 _ _ (rd_L1 t399 x44_2) t403 _ ?side1 ?side2 A33.out).mono ?_);(case side1=>exact zc HR402_0.out);(case side2=>exact HC402_0.out);rintro e w' ⟨rfl,⟨nd,rfl⟩⟩;refine ⟨_,rfl,?_⟩));go_ret2;exact ⟨_,by first|rfl|(simp [errW_none,errW_some]<;>rfl)|(simp [*,errW_none,errW_some]<;>rfl),by first|exact Kd.S_nil _ _ _ _ _|exact Kd.N_nil _ _ _ _ _|exact Kd.V_nil _ _ _ _ _|exact Kd.Q_nil _ _ _ _ _|exact Kd.R_nil _ _ _ _ _,zb HB.out⟩
        ·rw [if_neg c34] at H;have c34b0:(t403 == a2)=false:=beq_eq_false_iff_ne.mpr c34;have c34b1:(t403 != a2)=true:=bne_iff_ne.mpr c34;have H':=aM H;clear H;have p402:0≤(x44_2:Int):=zd;have q402:x44_2<(t399.length:Int):=zd;obtain ⟨ad402,A402_0,c402_0,e402,hx402_0,hl402_0,hi402_0⟩:=at_L1 (Kd.N_reads' HO_42.out).2.2 x44_2 p402 q402;cases e402;obtain ⟨ce402,hce402,hMe402,hcc402⟩:=Kd.N_get HO_42.out [] x44_2 p402 (by first|exact q402|exact zd|(have e_:=(Kd.N_reads' HO_42.out).1;omega));obtain ⟨ua402_0,uc402_0,rfl,ul402_0,ge402_0⟩:=Kd.FK_slice_open hMe402;have hv402_0:=hcc402 0 _ rfl;rw [Nat.add_zero,show ((Kd.slice 3 (Kd.int .i64))).sz=1 from rfl,Nat.mul_one] at hv402_0;replace hv402_0:=Option.some.inj (hv402_0.symm.trans hx402_0);injection hv402_0 with hva_ hvn_ hvc_
         rw [hva_] at ge402_0;rw [hvc_] at ul402_0;have HL402_0:=aM (show Kd.V (Kd.int .i64) 3 _ w.heap.size _ _ (rd_L1 t399 x44_2) from Kd.V_mk ul402_0 ge402_0);clear hva_ hvn_ hvc_ ge402_0 ul402_0 hcc402 hce402;have HR402_0:=aM hi402_0;have HC402_0:=aM hl402_0;clear hi402_0 hl402_0;replace p402:=eq_true p402;replace q402:=eq_true q402;go_wp2_with (first|((with_reducible refine gate_callee (f:=59) rfl ?_);refine gm (some 49) Try.func59 #[.slice A402_0 (rd_L1 t399 x44_2).length c402_0] ?_;(with_reducible refine (impl_lead.calls k2 _ _ (rd_L1 t399 x44_2) t403 _ ?side1 ?side2 A33.out).mono ?_);(case side1=>exact zc HR402_0.out);(case side2=>exact HC402_0.out);rintro e w' ⟨rfl,⟨nd,rfl⟩⟩;refine ⟨_,rfl,?_⟩));go_roundg k2;(case measure=>have:=HK1.out;have:=HK2.out;omega);(case rel=>exact ⟨(wrap64 (x44_2+1)),zt,H',⟨by have:=HK1.out;have:=HK2.out;omega⟩,⟨zn HO_11.out⟩,⟨zn HO_42.out⟩,⟨zb HB.out⟩⟩)
       ·rw [if_neg c30] at H;have c30b0:decide (x44_2<(t399.length:Int))=false:=decide_eq_false c30;clear c30;simp only [Option.some.injEq,Prod.mk.injEq] at H;obtain ⟨rfl,rfl⟩:=H;go_wp2;go_ret2;exact ⟨_,by first|rfl|(simp [errW_none,errW_some]<;>rfl)|(simp [*,errW_none,errW_some]<;>rfl),zn HO_11.out,zb HB.out⟩
 ·replace c5:=Bool.eq_false_iff.mpr c5;subst c5;replace H:=ifF H;simp only [Option.some.injEq,Prod.mk.injEq] at H;obtain ⟨rfl,rfl⟩:=H;go_enter Try.func58,Try.ntmps58;go_wp2_with (first|((with_reducible refine gate_callee (f:=71) rfl ?_);refine gm (some 17) Try.func71 #[.slice A0 l0.length c0,.slice A1 l1.length c1,.int .i64 a2] ?_;(with_reducible refine (impl_IsSystem.calls k _ _ l0 _ _ l1 a2 false _ ?side1 ?side2 ?side3 ?side4 A4.out).mono ?_);(case side1=>exact zc HR0.out);(case side2=>exact HC0.out);(case side3=>exact zc HR1.out);(case side4=>exact HC1.out);rintro e w' ⟨rfl,⟨nd,rfl⟩⟩;refine ⟨_,rfl,?_⟩));go_ret2;exact ⟨_,by first|rfl|(simp [errW_none,errW_some]<;>rfl)|(simp [*,errW_none,errW_some]<;>rfl),by first|exact Kd.S_nil _ _ _ _ _|exact Kd.N_nil _ _ _ _ _|exact Kd.V_nil _ _ _ _ _|exact Kd.Q_nil _ _ _ _ _|exact Kd.R_nil _ _ _ _ _,zb HB.out⟩
def impl_IsRatio.f (k : Nat) (a0_0 : Int) (a0_1 : Int) : Option (Bool) := (impl_InRange.f a0_0 (-1000000000) 1000000000).bind fun t405 => (if t405 = true then ((impl_InRange.f a0_1 1 1000000000).bind fun t406 => (if t406 = true then ((impl_gcd.f k a0_0 a0_1).bind fun t407 => (some (t407 == 1))) else (some false))) else (some false))
set_option maxHeartbeats 8000000 in
set_option maxRecDepth 100000 in
theorem impl_IsRatio.calls (k : Nat) (a0_0 : Int) (a0_1 : Int) (r : Bool) (w : World) (h : impl_IsRatio.f k a0_0 a0_1 = some r) :
 Calls Try.prog 74 #[.agg #[.int .i64 a0_0, .int .i64 a0_1]] w fun e w' => e = .returned (.bool r) ∧ Below w.heap.size w w' := by
 have hu26:=Try.underlying26;have HB:=aM (Below.refl w.heap.size w);have H:((impl_InRange.f a0_0 (-1000000000) 1000000000).bind fun t405=>(if t405=true then ((impl_InRange.f a0_1 1 1000000000).bind fun t406=>(if t406=true then ((impl_gcd.f k a0_0 a0_1).bind fun t407=>(some (t407 == 1))) else (some false))) else (some false)))=some r:=h;clear h;obtain ⟨t405,A2,H⟩:=bz H;by_cases c3:t405=true
 ·subst c3;replace H:=ifT H;obtain ⟨t406,A4,H⟩:=bz H;by_cases c5:t406=true
  ·subst c5;replace H:=ifT H;obtain ⟨t407,A6,H⟩:=bz H;obtain rfl:=Option.some.inj H;go_enter Try.func74,Try.ntmps74;go_wp2_with (first|((with_reducible refine gate_dst (N:=1) rfl ?_);refine box_event ?hg (N:=1) ?hd (cs:=#[.int .i64 a0_0,.int .i64 a0_1]) (t:=26) ?hr ?_;(case hd=>rfl);(case hg=>rfl);(case hr=>first|(go_simp;done)|(go_simp;rfl));intro gb404 hg w7 hbox hb;have BK404:=aM (hbox);have GW404:=aM (zg hg (zb HB.out));have GE404:=aM (zg hg (zb HB.out));replace HB:=aM (below_step (zb HB.out) hb);clear hb hbox hg;have hcz8_0:w7.cell? ⟨gb404,0,none⟩=some (.int .i64 a0_0):=(blk_cell BK404.out 0).trans rfl;have hcz8_1:w7.cell? ⟨gb404,1,none⟩=some (.int .i64 a0_1):=(blk_cell BK404.out 1).trans rfl;have hfz8_0:=blk_frozen BK404.out 0;have hfz8_1:=blk_frozen BK404.out 1)|((with_reducible refine gate_callee (f:=81) rfl ?_);refine gm (some 5) Try.func81 #[.int .i64 a0_0,.int .i64 (-1000000000),.int .i64 1000000000] ?_;(with_reducible refine (impl_InRange.calls a0_0 (-1000000000) 1000000000 true _ A2.out).mono ?_);rintro e w' ⟨rfl,⟨nd,rfl⟩⟩;refine ⟨_,rfl,?_⟩)|(go_at_call 81;(with_reducible refine (impl_InRange.calls a0_1 1 1000000000 true _ A4.out).mono ?_);rintro e w' ⟨rfl,⟨nd,rfl⟩⟩)|(go_at_call 60;(with_reducible refine (impl_gcd.calls k a0_0 a0_1 t407 _ A6.out).mono ?_);rintro e w' ⟨rfl,⟨nd,rfl⟩⟩));go_ret;exact ⟨by first|rfl|(simp [errW_none,errW_some]<;>rfl)|(simp [*,errW_none,errW_some]<;>rfl),zs HB.out⟩
  ·replace c5:=Bool.eq_false_iff.mpr c5;subst c5;replace H:=ifF H;obtain rfl:=Option.some.inj H;go_enter Try.func74,Try.ntmps74;go_wp2_with (first|((with_reducible refine gate_dst (N:=1) rfl ?_);refine box_event ?hg (N:=1) ?hd (cs:=#[.int .i64 a0_0,.int .i64 a0_1]) (t:=26) ?hr ?_;(case hd=>rfl);(case hg=>rfl);(case hr=>first|(go_simp;done)|(go_simp;rfl));intro gb404 hg w9 hbox hb;have BK404:=aM (hbox);have GW404:=aM (zg hg (zb HB.out));have GE404:=aM (zg hg (zb HB.out));replace HB:=aM (below_step (zb HB.out) hb);clear hb hbox hg;have hcz10_0:w9.cell? ⟨gb404,0,none⟩=some (.int .i64 a0_0):=(blk_cell BK404.out 0).trans rfl;have hcz10_1:w9.cell? ⟨gb404,1,none⟩=some (.int .i64 a0_1):=(blk_cell BK404.out 1).trans rfl;have hfz10_0:=blk_frozen BK404.out 0;have hfz10_1:=blk_frozen BK404.out 1)|((with_reducible refine gate_callee (f:=81) rfl ?_);refine gm (some 5) Try.func81 #[.int .i64 a0_0,.int .i64 (-1000000000),.int .i64 1000000000] ?_;(with_reducible refine (impl_InRange.calls a0_0 (-1000000000) 1000000000 true _ A2.out).mono ?_);rintro e w' ⟨rfl,⟨nd,rfl⟩⟩;refine ⟨_,rfl,?_⟩)|(go_at_call 81;(with_reducible refine (impl_InRange.calls a0_1 1 1000000000 false _ A4.out).mono ?_);rintro e w' ⟨rfl,⟨nd,rfl⟩⟩));go_ret;exact ⟨by first|rfl|(simp [errW_none,errW_some]<;>rfl)|(simp [*,errW_none,errW_some]<;>rfl),zs HB.out⟩
 ·replace c3:=Bool.eq_false_iff.mpr c3;subst c3;replace H:=ifF H;obtain rfl:=Option.some.inj H;go_enter Try.func74,Try.ntmps74;go_wp2_with (first|((with_reducible refine gate_dst (N:=1) rfl ?_);refine box_event ?hg (N:=1) ?hd (cs:=#[.int .i64 a0_0,.int .i64 a0_1]) (t:=26) ?hr ?_;(case hd=>rfl);(case hg=>rfl);(case hr=>first|(go_simp;done)|(go_simp;rfl));intro gb404 hg w11 hbox hb;have BK404:=aM (hbox);have GW404:=aM (zg hg (zb HB.out));have GE404:=aM (zg hg (zb HB.out));replace HB:=aM (below_step (zb HB.out) hb);clear hb hbox hg;have hcz12_0:w11.cell? ⟨gb404,0,none⟩=some (.int .i64 a0_0):=(blk_cell BK404.out 0).trans rfl;have hcz12_1:w11.cell? ⟨gb404,1,none⟩=some (.int .i64 a0_1):=(blk_cell BK404.out 1).trans rfl;have hfz12_0:=blk_frozen BK404.out 0;have hfz12_1:=blk_frozen BK404.out 1)|((with_reducible refine gate_callee (f:=81) rfl ?_);refine gm (some 5) Try.func81 #[.int .i64 a0_0,.int .i64 (-1000000000),.int .i64 1000000000] ?_;(with_reducible refine (impl_InRange.calls a0_0 (-1000000000) 1000000000 false _ A2.out).mono ?_);rintro e w' ⟨rfl,⟨nd,rfl⟩⟩;refine ⟨_,rfl,?_⟩));go_ret;exact ⟨by first|rfl|(simp [errW_none,errW_some]<;>rfl)|(simp [*,errW_none,errW_some]<;>rfl),zs HB.out⟩
end Go.Proofs.Ytojkepidkmkmpaa.PFnExactValueOf
end
section
namespace Go.Proofs.Ytojkepidkmkmpaa.PFnExactValueOf
open Go.Proofs.YtojkepidkmkmpaaW.PrintWords.Aside0 renaming mk → aM
open List renaming setIfInBounds_toArray → qa, set_cons_zero → qz, set_cons_succ → qs
open Bool renaming true → tt, false → ff
open Option renaming bind_eq_some_iff → bE

open Go.RowKit Go.Proofs.YtojkepidkmkmpaaW.PrintWords Go.Proofs.YtojkepidkmkmpaaW.PrintLast Go.Proofs.YtojkepidkmkmpaaW.PrintMore
attribute [local go_sem] max2_int min2_int max_two min_two max_three min_three max_four min_four
set_option linter.unusedVariables false
set_option linter.unusedSimpArgs false
def impl_reduced.f (k : Nat) (a0 : Int) (a1 : Int) : Option (Int × Int × Bool) := (impl_gcd.f k a0 a1).bind fun t409 => (if a1 < 0 then (if (wrap64 (-t409)) = 0 then (none) else ((impl_IsRatio.f k (wrap64 (Int.tdiv a0 (wrap64 (-t409)))) (wrap64 (Int.tdiv a1 (wrap64 (-t409))))).bind fun t411 => (if t411 = true then (some (wrap64 (Int.tdiv a0 (wrap64 (-t409))), wrap64 (Int.tdiv a1 (wrap64 (-t409))), true)) else (some (0, 0, false))))) else (if t409 = 0 then (none) else ((impl_IsRatio.f k (wrap64 (Int.tdiv a0 t409)) (wrap64 (Int.tdiv a1 t409))).bind fun t413 => (if t413 = true then (some (wrap64 (Int.tdiv a0 t409), wrap64 (Int.tdiv a1 t409), true)) else (some (0, 0, false))))))
def impl_reduced.T4 : Bool × List (List Nat × List Nat) := (true, [([], []), ([], []), ([0, 1], [0, 1]), ([], []), ([], []), ([3, 4], [3, 4]), ([2, 5], [2, 5]), ([], []), ([7, 6, 0, 1, 2, 3, 4, 5, 6, 7], [6, 7])])
def impl_reduced.B4 : List Nat := [0, 0, 3, 0, 0, 24, 63, 0, 255]
theorem impl_reduced.tab4 : rtab .any (opsOf Try.f61 4) = impl_reduced.T4 := by kernel_rfl
theorem impl_reduced.bits4 : waitsOk impl_reduced.T4.2 impl_reduced.B4 = true := by kernel_rfl
set_option maxHeartbeats 8000000 in
set_option maxRecDepth 100000 in
theorem impl_reduced.calls (k : Nat) (a0 : Int) (a1 : Int) (r1 : Int) (r2 : Int) (r3 : Bool) (w : World) (h : impl_reduced.f k a0 a1 = some (r1, r2, r3)) :
 Calls Try.prog 61 #[.int .i64 a0, .int .i64 a1] w fun e w' => e = .returned (.tuple #[.agg #[.int .i64 r1, .int .i64 r2], .bool r3]) ∧ Below w.heap.size w w' := by
 have hu26:=Try.underlying26;have HB:=aM (Below.refl w.heap.size w);have H:((impl_gcd.f k a0 a1).bind fun t409=>(if a1<0 then (if (wrap64 (-t409))=0 then (none) else ((impl_IsRatio.f k (wrap64 (Int.tdiv a0 (wrap64 (-t409)))) (wrap64 (Int.tdiv a1 (wrap64 (-t409))))).bind fun t411=>(if t411=true then (some (wrap64 (Int.tdiv a0 (wrap64 (-t409))),wrap64 (Int.tdiv a1 (wrap64 (-t409))),true)) else (some (0,0,false))))) else (if t409=0 then (none) else ((impl_IsRatio.f k (wrap64 (Int.tdiv a0 t409)) (wrap64 (Int.tdiv a1 t409))).bind fun t413=>(if t413=true then (some (wrap64 (Int.tdiv a0 t409),wrap64 (Int.tdiv a1 t409),true)) else (some (0,0,false)))))))=some (r1,r2,r3):=h;clear h;obtain ⟨t409,A3,H⟩:=bz H;by_cases c4:a1<0
 ·rw [if_pos c4] at H;have c4b0:decide (a1<0)=true:=decide_eq_true c4;clear c4;by_cases c5:(wrap64 (-t409))=0
  ·rw [if_pos c5] at H;exact absurd H (by simp)
  ·rw [if_neg c5] at H;have c5b0:((wrap64 (-t409)) == 0)=false:=beq_eq_false_iff_ne.mpr c5;have c5b1:((wrap64 (-t409)) != 0)=true:=bne_iff_ne.mpr c5;obtain ⟨t411,A6,H⟩:=bz H;by_cases c7:t411=true
   ·subst c7;replace H:=ifT H;simp only [Option.some.injEq,Prod.mk.injEq] at H;obtain ⟨rfl,rfl,rfl⟩:=H;go_enter Try.func61,Try.ntmps61;(try go_wp2_with (first|((with_reducible refine gate_dst (N:=4) rfl ?_);refine box_event ?hg (N:=4) ?hd (cs:=#[.int .i64 0,.int .i64 0]) (t:=26) ?hr ?_;(case hd=>rfl);(case hg=>rfl);(case hr=>first|(go_simp;done)|(go_simp;rfl));intro gb408 hg w8 hbox hb;have BK408:=aM (hbox);have GW408:=aM (zg hg (zb HB.out));have GE408:=aM (zg hg (zb HB.out));replace HB:=aM (below_step (zb HB.out) hb);clear hb hbox hg)|((with_reducible refine gate_callee (f:=60) rfl ?_);refine gm (some 10) Try.func60 #[.int .i64 a0,.int .i64 a1] ?_;(with_reducible refine (impl_gcd.calls k a0 a1 t409 _ A3.out).mono ?_);rintro e w' ⟨rfl,⟨nd,rfl⟩⟩;refine ⟨_,rfl,?_⟩;(try (rw [drewN_self w8];generalize hq_:World.drewN w8 _=w8;replace BK408:Aside0 (w8.heap[gb408]?=some (.cells #[.int .i64 0,.int .i64 0] 26 (0,0))):=⟨by rw [← hq_];exact (zk BK408.out)⟩;replace HB:Aside0 (Below w.heap.size w w8):=⟨by rw [← hq_];exact (zs HB.out)⟩;clear hq_)))));replace BK408:=aM (blk_drew BK408.out);replace HB:=aM (below_drew1 HB.out);refine start_ (n:=9) (S:=fun w'=>True) (ds:=[]) #[ff,ff,ff,ff,ff,ff,ff,ff,ff] (by kernel_rfl) rfl rfl trivial (fun hHeld=>?_);refine with_tabW impl_reduced.tab4 impl_reduced.bits4 (fun HT_ HW_=>?_);generalize w8.drew=w9 at BK408 HB hHeld ⊢;refine pu 0 (some 15) #[tt,ff,ff,ff,ff,ff,ff,ff,ff] rfl rfl HT_ ?_;refine pu 1 (some 16) #[tt,tt,ff,ff,ff,ff,ff,ff,ff] rfl rfl HT_ ?_;refine pu 2 (some 17) #[tt,tt,tt,ff,ff,ff,ff,ff,ff] rfl rfl HT_ ?_;refine pu 3 (some 18) #[tt,tt,tt,tt,ff,ff,ff,ff,ff] rfl rfl HT_ ?_;refine pu 4 (some 19) #[tt,tt,tt,tt,tt,ff,ff,ff,ff] rfl rfl HT_ ?_;refine pu 5 (some 20) #[tt,tt,tt,tt,tt,tt,ff,ff,ff] rfl rfl HT_ ?_;refine pu 6 (some 21) #[tt,tt,tt,tt,tt,tt,tt,ff,ff] rfl rfl HT_ ?_;refine one_ (i:=7) (N:=some 7) #[tt,tt,tt,tt,tt,tt,tt,tt,ff] rfl rfl (one_of HT_.out (by kernel_rfl)) (by decide) (fun K hK=>?_);refine box_step ?hg (N:=7) ?hd (cs:=#[.int .i64 0,.int .i64 0]) (t:=26) ?hr ?_;(case hd=>rfl);(case hg=>rfl);(case hr=>first|(go_simp;done)|(go_simp;rfl));intro gb410 hg w10 hbox hb;have BK410:=aM (hbox);have GW410:=aM (zg hg (zs HB.out));have GE410:=aM (zg hg (zs HB.out));replace HB:=aM (below_step (zs HB.out) hb);have NB408_410:=aM (zl hg (zk BK408.out));have NB410_408:=aM (zm hg (zk BK408.out));replace BK408:=aM (blk_below (g:=gb408) (o:=.cells #[.int .i64 0,.int .i64 0] 26 (0,0)) (zk BK408.out) hb);clear hb hbox hg;refine hK.out _ _ trivial (fun hHeld=>?_);clear hK K;refine norm_ (a':=?_) ?_ ?_;rotate_left
    ·show Act.put _ (some 7) _=_;simp only [Act.put,qa,qz,qs,i64_w,i32_w];rfl
    refine one_ (i:=8) (N:=none) #[tt,tt,tt,tt,tt,tt,tt,tt,tt] rfl rfl (one_of HT_.out (by kernel_rfl)) (by decide) (fun K hK=>?_);have hs11:w10.cell? ⟨gb410,0,none⟩=some (.int .i64 0):=(blk_cell BK410.out 0).trans rfl;have hfs11:=blk_frozen BK410.out 0;have hns11_0:=NB408_410.out;have hms11_0:=NB410_408.out;have hs12:w10.cell? ⟨gb410,1,none⟩=some (.int .i64 0):=(blk_cell BK410.out 1).trans rfl;have hfs12:=blk_frozen BK410.out 1;have hns12_0:=NB408_410.out;have hms12_0:=NB410_408.out;refine skip_ (w1:=?_) (by rfl) rfl ?_ ?_;rotate_left
    ·go_simp;rfl
    refine hK.out _ _ trivial (fun hHeld=>?_);clear hK K;refine done_ (done_of HT_.out (by kernel_rfl)) ?_;have hnb13:=NB410_408.out;have hnc13:=NB408_410.out;have hcz14_0:w10.cell? ⟨gb410,0,none⟩=some (.int .i64 0):=(blk_cell BK410.out 0).trans rfl;have hcz14_1:w10.cell? ⟨gb410,1,none⟩=some (.int .i64 0):=(blk_cell BK410.out 1).trans rfl;have hfz14_0:=blk_frozen BK410.out 0;have hfz14_1:=blk_frozen BK410.out 1;(try go_wp2_with (first|((with_reducible refine gate_callee (f:=74) rfl ?_);refine gm (some 23) Try.func74 #[.agg #[.int .i64 (wrap64 (Int.tdiv a0 (wrap64 (-t409)))),.int .i64 (wrap64 (Int.tdiv a1 (wrap64 (-t409))))]] ?_;(with_reducible refine (impl_IsRatio.calls k (wrap64 (Int.tdiv a0 (wrap64 (-t409)))) (wrap64 (Int.tdiv a1 (wrap64 (-t409)))) true _ A6.out).mono ?_);rintro e w15 ⟨rfl,hb⟩;refine ⟨_,rfl,?_⟩;replace BK408:=aM (blk_below (g:=gb408) (o:=.cells #[.int .i64 0,.int .i64 0] 26 (0,0)) (by (with_reducible repeat (first|refine blk_drewN ?_ _|refine blk_drew ?_|refine blk_alloc ?_ _));refine blk_far ?_ NB408_410.out _;(with_reducible repeat (first|refine blk_drewN ?_ _|refine blk_drew ?_|refine blk_alloc ?_ _));refine blk_far ?_ NB408_410.out _;(with_reducible repeat (first|refine blk_drewN ?_ _|refine blk_drew ?_|refine blk_alloc ?_ _));exact BK408.out) hb);replace BK410:=aM (blk_below (g:=gb410) (o:=.cells #[.int .i64 (wrap64 (Int.tdiv a0 (wrap64 (-t409)))),.int .i64 (wrap64 (Int.tdiv a1 (wrap64 (-t409))))] 26 (0,0)) (by (with_reducible repeat (first|refine blk_drewN ?_ _|refine blk_drew ?_|refine blk_alloc ?_ _));refine blk_put (cs:=#[.int .i64 (wrap64 (Int.tdiv a0 (wrap64 (-t409)))),.int .i64 0]) ?_ 1 _ rfl;(with_reducible repeat (first|refine blk_drewN ?_ _|refine blk_drew ?_|refine blk_alloc ?_ _));refine blk_put (cs:=#[.int .i64 0,.int .i64 0]) ?_ 0 _ rfl;(with_reducible repeat (first|refine blk_drewN ?_ _|refine blk_drew ?_|refine blk_alloc ?_ _));exact BK410.out) hb);replace HB:=aM (below_step (zs HB.out) hb);(try clear hb);(try clear hb2);(try clear hk);(try clear hi);have hcz16_0:w15.cell? ⟨gb410,0,none⟩=some (.int .i64 (wrap64 (Int.tdiv a0 (wrap64 (-t409))))):=(blk_cell BK410.out 0).trans rfl;have hcz16_1:w15.cell? ⟨gb410,1,none⟩=some (.int .i64 (wrap64 (Int.tdiv a1 (wrap64 (-t409))))):=(blk_cell BK410.out 1).trans rfl;have hfz16_0:=blk_frozen BK410.out 0;have hfz16_1:=blk_frozen BK410.out 1;have hcz17_0:w15.cell? ⟨gb408,0,none⟩=some (.int .i64 0):=(blk_cell BK408.out 0).trans rfl;have hcz17_1:w15.cell? ⟨gb408,1,none⟩=some (.int .i64 0):=(blk_cell BK408.out 1).trans rfl;have hfz17_0:=blk_frozen BK408.out 0;have hfz17_1:=blk_frozen BK408.out 1)));refine bodyPost_ret (results_ct rfl _ _ gb408 26 #[.int .i64 (wrap64 (Int.tdiv a0 (wrap64 (-t409)))),.int .i64 (wrap64 (Int.tdiv a1 (wrap64 (-t409))))] (0,0) _ rfl (by (with_reducible repeat (first|refine blk_drewN ?_ _|refine blk_drew ?_|refine blk_alloc ?_ _));refine blk_put (cs:=#[.int .i64 (wrap64 (Int.tdiv a0 (wrap64 (-t409)))),.int .i64 0]) ?_ 1 _ rfl;(with_reducible repeat (first|refine blk_drewN ?_ _|refine blk_drew ?_|refine blk_alloc ?_ _));refine blk_put (cs:=#[.int .i64 0,.int .i64 0]) ?_ 0 _ rfl;(with_reducible repeat (first|refine blk_drewN ?_ _|refine blk_drew ?_|refine blk_alloc ?_ _));exact BK408.out) Try.underlying26 rfl (by kernel_rfl)) rfl ?_;exact ⟨by first|rfl|(simp [errW_none,errW_some]<;>rfl)|(simp [*,errW_none,errW_some]<;>rfl),zs HB.out⟩
   ·replace c7:=Bool.eq_false_iff.mpr c7;subst c7;replace H:=ifF H;simp only [Option.some.injEq,Prod.mk.injEq] at H;obtain ⟨rfl,rfl,rfl⟩:=H;go_enter Try.func61,Try.ntmps61;(try go_wp2_with (first|((with_reducible refine gate_dst (N:=4) rfl ?_);refine box_event ?hg (N:=4) ?hd (cs:=#[.int .i64 0,.int .i64 0]) (t:=26) ?hr ?_;(case hd=>rfl);(case hg=>rfl);(case hr=>first|(go_simp;done)|(go_simp;rfl));intro gb408 hg w18 hbox hb;have BK408:=aM (hbox);have GW408:=aM (zg hg (zb HB.out));have GE408:=aM (zg hg (zb HB.out));replace HB:=aM (below_step (zb HB.out) hb);clear hb hbox hg)|((with_reducible refine gate_callee (f:=60) rfl ?_);refine gm (some 10) Try.func60 #[.int .i64 a0,.int .i64 a1] ?_;(with_reducible refine (impl_gcd.calls k a0 a1 t409 _ A3.out).mono ?_);rintro e w' ⟨rfl,⟨nd,rfl⟩⟩;refine ⟨_,rfl,?_⟩;(try (rw [drewN_self w18];generalize hq_:World.drewN w18 _=w18;replace BK408:Aside0 (w18.heap[gb408]?=some (.cells #[.int .i64 0,.int .i64 0] 26 (0,0))):=⟨by rw [← hq_];exact (zk BK408.out)⟩;replace HB:Aside0 (Below w.heap.size w w18):=⟨by rw [← hq_];exact (zs HB.out)⟩;clear hq_)))));replace BK408:=aM (blk_drew BK408.out);replace HB:=aM (below_drew1 HB.out);refine start_ (n:=9) (S:=fun w'=>True) (ds:=[]) #[ff,ff,ff,ff,ff,ff,ff,ff,ff] (by kernel_rfl) rfl rfl trivial (fun hHeld=>?_);refine with_tabW impl_reduced.tab4 impl_reduced.bits4 (fun HT_ HW_=>?_);generalize w18.drew=w19 at BK408 HB hHeld ⊢;refine pu 0 (some 15) #[tt,ff,ff,ff,ff,ff,ff,ff,ff] rfl rfl HT_ ?_;refine pu 1 (some 16) #[tt,tt,ff,ff,ff,ff,ff,ff,ff] rfl rfl HT_ ?_;refine pu 2 (some 17) #[tt,tt,tt,ff,ff,ff,ff,ff,ff] rfl rfl HT_ ?_;refine pu 3 (some 18) #[tt,tt,tt,tt,ff,ff,ff,ff,ff] rfl rfl HT_ ?_;refine pu 4 (some 19) #[tt,tt,tt,tt,tt,ff,ff,ff,ff] rfl rfl HT_ ?_;refine pu 5 (some 20) #[tt,tt,tt,tt,tt,tt,ff,ff,ff] rfl rfl HT_ ?_;refine pu 6 (some 21) #[tt,tt,tt,tt,tt,tt,tt,ff,ff] rfl rfl HT_ ?_;refine one_ (i:=7) (N:=some 7) #[tt,tt,tt,tt,tt,tt,tt,tt,ff] rfl rfl (one_of HT_.out (by kernel_rfl)) (by decide) (fun K hK=>?_);refine box_step ?hg (N:=7) ?hd (cs:=#[.int .i64 0,.int .i64 0]) (t:=26) ?hr ?_;(case hd=>rfl);(case hg=>rfl);(case hr=>first|(go_simp;done)|(go_simp;rfl));intro gb410 hg w20 hbox hb;have BK410:=aM (hbox);have GW410:=aM (zg hg (zs HB.out));have GE410:=aM (zg hg (zs HB.out));replace HB:=aM (below_step (zs HB.out) hb);have NB408_410:=aM (zl hg (zk BK408.out));have NB410_408:=aM (zm hg (zk BK408.out));replace BK408:=aM (blk_below (g:=gb408) (o:=.cells #[.int .i64 0,.int .i64 0] 26 (0,0)) (zk BK408.out) hb);clear hb hbox hg;refine hK.out _ _ trivial (fun hHeld=>?_);clear hK K;refine norm_ (a':=?_) ?_ ?_;rotate_left
    ·show Act.put _ (some 7) _=_;simp only [Act.put,qa,qz,qs,i64_w,i32_w];rfl
    refine one_ (i:=8) (N:=none) #[tt,tt,tt,tt,tt,tt,tt,tt,tt] rfl rfl (one_of HT_.out (by kernel_rfl)) (by decide) (fun K hK=>?_);have hs21:w20.cell? ⟨gb410,0,none⟩=some (.int .i64 0):=(blk_cell BK410.out 0).trans rfl;have hfs21:=blk_frozen BK410.out 0;have hns21_0:=NB408_410.out;have hms21_0:=NB410_408.out;have hs22:w20.cell? ⟨gb410,1,none⟩=some (.int .i64 0):=(blk_cell BK410.out 1).trans rfl;have hfs22:=blk_frozen BK410.out 1;have hns22_0:=NB408_410.out;have hms22_0:=NB410_408.out;refine skip_ (w1:=?_) (by rfl) rfl ?_ ?_;rotate_left
    ·go_simp;rfl
    refine hK.out _ _ trivial (fun hHeld=>?_);clear hK K;refine done_ (done_of HT_.out (by kernel_rfl)) ?_;have hnb23:=NB410_408.out;have hnc23:=NB408_410.out;have hcz24_0:w20.cell? ⟨gb410,0,none⟩=some (.int .i64 0):=(blk_cell BK410.out 0).trans rfl;have hcz24_1:w20.cell? ⟨gb410,1,none⟩=some (.int .i64 0):=(blk_cell BK410.out 1).trans rfl;have hfz24_0:=blk_frozen BK410.out 0;have hfz24_1:=blk_frozen BK410.out 1;(try go_wp2_with (first|((with_reducible refine gate_callee (f:=74) rfl ?_);refine gm (some 23) Try.func74 #[.agg #[.int .i64 (wrap64 (Int.tdiv a0 (wrap64 (-t409)))),.int .i64 (wrap64 (Int.tdiv a1 (wrap64 (-t409))))]] ?_;(with_reducible refine (impl_IsRatio.calls k (wrap64 (Int.tdiv a0 (wrap64 (-t409)))) (wrap64 (Int.tdiv a1 (wrap64 (-t409)))) false _ A6.out).mono ?_);rintro e w25 ⟨rfl,hb⟩;refine ⟨_,rfl,?_⟩;replace BK408:=aM (blk_below (g:=gb408) (o:=.cells #[.int .i64 0,.int .i64 0] 26 (0,0)) (by (with_reducible repeat (first|refine blk_drewN ?_ _|refine blk_drew ?_|refine blk_alloc ?_ _));refine blk_far ?_ NB408_410.out _;(with_reducible repeat (first|refine blk_drewN ?_ _|refine blk_drew ?_|refine blk_alloc ?_ _));refine blk_far ?_ NB408_410.out _;(with_reducible repeat (first|refine blk_drewN ?_ _|refine blk_drew ?_|refine blk_alloc ?_ _));exact BK408.out) hb);replace BK410:=aM (blk_below (g:=gb410) (o:=.cells #[.int .i64 (wrap64 (Int.tdiv a0 (wrap64 (-t409)))),.int .i64 (wrap64 (Int.tdiv a1 (wrap64 (-t409))))] 26 (0,0)) (by (with_reducible repeat (first|refine blk_drewN ?_ _|refine blk_drew ?_|refine blk_alloc ?_ _));refine blk_put (cs:=#[.int .i64 (wrap64 (Int.tdiv a0 (wrap64 (-t409)))),.int .i64 0]) ?_ 1 _ rfl;(with_reducible repeat (first|refine blk_drewN ?_ _|refine blk_drew ?_|refine blk_alloc ?_ _));refine blk_put (cs:=#[.int .i64 0,.int .i64 0]) ?_ 0 _ rfl;(with_reducible repeat (first|refine blk_drewN ?_ _|refine blk_drew ?_|refine blk_alloc ?_ _));exact BK410.out) hb);replace HB:=aM (below_step (zs HB.out) hb);(try clear hb);(try clear hb2);(try clear hk);(try clear hi);have hcz26_0:w25.cell? ⟨gb408,0,none⟩=some (.int .i64 0):=(blk_cell BK408.out 0).trans rfl;have hcz26_1:w25.cell? ⟨gb408,1,none⟩=some (.int .i64 0):=(blk_cell BK408.out 1).trans rfl;have hfz26_0:=blk_frozen BK408.out 0;have hfz26_1:=blk_frozen BK408.out 1)));refine bodyPost_ret (results_ct rfl _ _ gb408 26 #[.int .i64 0,.int .i64 0] (0,0) _ rfl (by (with_reducible repeat (first|refine blk_drewN ?_ _|refine blk_drew ?_|refine blk_alloc ?_ _));refine blk_put (cs:=#[.int .i64 0,.int .i64 0]) ?_ 1 _ rfl;(with_reducible repeat (first|refine blk_drewN ?_ _|refine blk_drew ?_|refine blk_alloc ?_ _));refine blk_put (cs:=#[.int .i64 0,.int .i64 0]) ?_ 0 _ rfl;(with_reducible repeat (first|refine blk_drewN ?_ _|refine blk_drew ?_|refine blk_alloc ?_ _));exact BK408.out) Try.underlying26 rfl (by kernel_rfl)) rfl ?_;exact ⟨by first|rfl|(simp [errW_none,errW_some]<;>rfl)|(simp [*,errW_none,errW_some]<;>rfl),zs HB.out⟩
 ·rw [if_neg c4] at H;have c4b0:decide (a1<0)=false:=decide_eq_false c4;clear c4;by_cases c27:t409=0
  ·rw [if_pos c27] at H;exact absurd H (by simp)
  ·rw [if_neg c27] at H;have c27b0:(t409 == 0)=false:=beq_eq_false_iff_ne.mpr c27;have c27b1:(t409 != 0)=true:=bne_iff_ne.mpr c27;obtain ⟨t413,A28,H⟩:=bz H;by_cases c29:t413=true
   ·subst c29;replace H:=ifT H;simp only [Option.some.injEq,Prod.mk.injEq] at H;obtain ⟨rfl,rfl,rfl⟩:=H;go_enter Try.func61,Try.ntmps61;(try go_wp2_with (first|((with_reducible refine gate_dst (N:=4) rfl ?_);refine box_event ?hg (N:=4) ?hd (cs:=#[.int .i64 0,.int .i64 0]) (t:=26) ?hr ?_;(case hd=>rfl);(case hg=>rfl);(case hr=>first|(go_simp;done)|(go_simp;rfl));intro gb408 hg w30 hbox hb;have BK408:=aM (hbox);have GW408:=aM (zg hg (zb HB.out));have GE408:=aM (zg hg (zb HB.out));replace HB:=aM (below_step (zb HB.out) hb);clear hb hbox hg)|((with_reducible refine gate_callee (f:=60) rfl ?_);refine gm (some 10) Try.func60 #[.int .i64 a0,.int .i64 a1] ?_;(with_reducible refine (impl_gcd.calls k a0 a1 t409 _ A3.out).mono ?_);rintro e w' ⟨rfl,⟨nd,rfl⟩⟩;refine ⟨_,rfl,?_⟩;(try (rw [drewN_self w30];generalize hq_:World.drewN w30 _=w30;replace BK408:Aside0 (w30.heap[gb408]?=some (.cells #[.int .i64 0,.int .i64 0] 26 (0,0))):=⟨by rw [← hq_];exact (zk BK408.out)⟩;replace HB:Aside0 (Below w.heap.size w w30):=⟨by rw [← hq_];exact (zs HB.out)⟩;clear hq_)))));replace BK408:=aM (blk_drew BK408.out);replace HB:=aM (below_drew1 HB.out);refine start_ (n:=9) (S:=fun w'=>True) (ds:=[]) #[ff,ff,ff,ff,ff,ff,ff,ff,ff] (by kernel_rfl) rfl rfl trivial (fun hHeld=>?_);refine with_tabW impl_reduced.tab4 impl_reduced.bits4 (fun HT_ HW_=>?_);generalize w30.drew=w31 at BK408 HB hHeld ⊢;refine pu 0 (some 15) #[tt,ff,ff,ff,ff,ff,ff,ff,ff] rfl rfl HT_ ?_;refine pu 1 (some 16) #[tt,tt,ff,ff,ff,ff,ff,ff,ff] rfl rfl HT_ ?_;refine pu 2 (some 17) #[tt,tt,tt,ff,ff,ff,ff,ff,ff] rfl rfl HT_ ?_;refine pu 3 (some 18) #[tt,tt,tt,tt,ff,ff,ff,ff,ff] rfl rfl HT_ ?_;refine pu 4 (some 19) #[tt,tt,tt,tt,tt,ff,ff,ff,ff] rfl rfl HT_ ?_;refine pu 5 (some 20) #[tt,tt,tt,tt,tt,tt,ff,ff,ff] rfl rfl HT_ ?_;refine pu 6 (some 21) #[tt,tt,tt,tt,tt,tt,tt,ff,ff] rfl rfl HT_ ?_;refine one_ (i:=7) (N:=some 7) #[tt,tt,tt,tt,tt,tt,tt,tt,ff] rfl rfl (one_of HT_.out (by kernel_rfl)) (by decide) (fun K hK=>?_);refine box_step ?hg (N:=7) ?hd (cs:=#[.int .i64 0,.int .i64 0]) (t:=26) ?hr ?_;(case hd=>rfl);(case hg=>rfl);(case hr=>first|(go_simp;done)|(go_simp;rfl));intro gb412 hg w32 hbox hb;have BK412:=aM (hbox);have GW412:=aM (zg hg (zs HB.out));have GE412:=aM (zg hg (zs HB.out));replace HB:=aM (below_step (zs HB.out) hb);have NB408_412:=aM (zl hg (zk BK408.out));have NB412_408:=aM (zm hg (zk BK408.out));replace BK408:=aM (blk_below (g:=gb408) (o:=.cells #[.int .i64 0,.int .i64 0] 26 (0,0)) (zk BK408.out) hb);clear hb hbox hg;refine hK.out _ _ trivial (fun hHeld=>?_);clear hK K;refine norm_ (a':=?_) ?_ ?_;rotate_left
    ·show Act.put _ (some 7) _=_;simp only [Act.put,qa,qz,qs,i64_w,i32_w];rfl
    refine one_ (i:=8) (N:=none) #[tt,tt,tt,tt,tt,tt,tt,tt,tt] rfl rfl (one_of HT_.out (by kernel_rfl)) (by decide) (fun K hK=>?_);have hs33:w32.cell? ⟨gb412,0,none⟩=some (.int .i64 0):=(blk_cell BK412.out 0).trans rfl;have hfs33:=blk_frozen BK412.out 0;have hns33_0:=NB408_412.out;have hms33_0:=NB412_408.out;have hs34:w32.cell? ⟨gb412,1,none⟩=some (.int .i64 0):=(blk_cell BK412.out 1).trans rfl;have hfs34:=blk_frozen BK412.out 1;have hns34_0:=NB408_412.out;have hms34_0:=NB412_408.out;refine skip_ (w1:=?_) (by rfl) rfl ?_ ?_;rotate_left
    ·go_simp;rfl
    refine hK.out _ _ trivial (fun hHeld=>?_);clear hK K;refine done_ (done_of HT_.out (by kernel_rfl)) ?_;have hnb35:=NB412_408.out;have hnc35:=NB408_412.out;have hcz36_0:w32.cell? ⟨gb412,0,none⟩=some (.int .i64 0):=(blk_cell BK412.out 0).trans rfl;have hcz36_1:w32.cell? ⟨gb412,1,none⟩=some (.int .i64 0):=(blk_cell BK412.out 1).trans rfl;have hfz36_0:=blk_frozen BK412.out 0;have hfz36_1:=blk_frozen BK412.out 1;(try go_wp2_with (first|((with_reducible refine gate_callee (f:=74) rfl ?_);refine gm (some 23) Try.func74 #[.agg #[.int .i64 (wrap64 (Int.tdiv a0 t409)),.int .i64 (wrap64 (Int.tdiv a1 t409))]] ?_;(with_reducible refine (impl_IsRatio.calls k (wrap64 (Int.tdiv a0 t409)) (wrap64 (Int.tdiv a1 t409)) true _ A28.out).mono ?_);rintro e w37 ⟨rfl,hb⟩;refine ⟨_,rfl,?_⟩;replace BK408:=aM (blk_below (g:=gb408) (o:=.cells #[.int .i64 0,.int .i64 0] 26 (0,0)) (by (with_reducible repeat (first|refine blk_drewN ?_ _|refine blk_drew ?_|refine blk_alloc ?_ _));refine blk_far ?_ NB408_412.out _;(with_reducible repeat (first|refine blk_drewN ?_ _|refine blk_drew ?_|refine blk_alloc ?_ _));refine blk_far ?_ NB408_412.out _;(with_reducible repeat (first|refine blk_drewN ?_ _|refine blk_drew ?_|refine blk_alloc ?_ _));exact BK408.out) hb);replace BK412:=aM (blk_below (g:=gb412) (o:=.cells #[.int .i64 (wrap64 (Int.tdiv a0 t409)),.int .i64 (wrap64 (Int.tdiv a1 t409))] 26 (0,0)) (by (with_reducible repeat (first|refine blk_drewN ?_ _|refine blk_drew ?_|refine blk_alloc ?_ _));refine blk_put (cs:=#[.int .i64 (wrap64 (Int.tdiv a0 t409)),.int .i64 0]) ?_ 1 _ rfl;(with_reducible repeat (first|refine blk_drewN ?_ _|refine blk_drew ?_|refine blk_alloc ?_ _));refine blk_put (cs:=#[.int .i64 0,.int .i64 0]) ?_ 0 _ rfl;(with_reducible repeat (first|refine blk_drewN ?_ _|refine blk_drew ?_|refine blk_alloc ?_ _));exact BK412.out) hb);replace HB:=aM (below_step (zs HB.out) hb);(try clear hb);(try clear hb2);(try clear hk);(try clear hi);have hcz38_0:w37.cell? ⟨gb412,0,none⟩=some (.int .i64 (wrap64 (Int.tdiv a0 t409))):=(blk_cell BK412.out 0).trans rfl;have hcz38_1:w37.cell? ⟨gb412,1,none⟩=some (.int .i64 (wrap64 (Int.tdiv a1 t409))):=(blk_cell BK412.out 1).trans rfl;have hfz38_0:=blk_frozen BK412.out 0;have hfz38_1:=blk_frozen BK412.out 1;have hcz39_0:w37.cell? ⟨gb408,0,none⟩=some (.int .i64 0):=(blk_cell BK408.out 0).trans rfl;have hcz39_1:w37.cell? ⟨gb408,1,none⟩=some (.int .i64 0):=(blk_cell BK408.out 1).trans rfl;have hfz39_0:=blk_frozen BK408.out 0;have hfz39_1:=blk_frozen BK408.out 1)));refine bodyPost_ret (results_ct rfl _ _ gb408 26 #[.int .i64 (wrap64 (Int.tdiv a0 t409)),.int .i64 (wrap64 (Int.tdiv a1 t409))] (0,0) _ rfl (by (with_reducible repeat (first|refine blk_drewN ?_ _|refine blk_drew ?_|refine blk_alloc ?_ _));refine blk_put (cs:=#[.int .i64 (wrap64 (Int.tdiv a0 t409)),.int .i64 0]) ?_ 1 _ rfl;(with_reducible repeat (first|refine blk_drewN ?_ _|refine blk_drew ?_|refine blk_alloc ?_ _));refine blk_put (cs:=#[.int .i64 0,.int .i64 0]) ?_ 0 _ rfl;(with_reducible repeat (first|refine blk_drewN ?_ _|refine blk_drew ?_|refine blk_alloc ?_ _));exact BK408.out) Try.underlying26 rfl (by kernel_rfl)) rfl ?_;exact ⟨by first|rfl|(simp [errW_none,errW_some]<;>rfl)|(simp [*,errW_none,errW_some]<;>rfl),zs HB.out⟩
   ·replace c29:=Bool.eq_false_iff.mpr c29;subst c29;replace H:=ifF H;simp only [Option.some.injEq,Prod.mk.injEq] at H;obtain ⟨rfl,rfl,rfl⟩:=H;go_enter Try.func61,Try.ntmps61;(try go_wp2_with (first|((with_reducible refine gate_dst (N:=4) rfl ?_);refine box_event ?hg (N:=4) ?hd (cs:=#[.int .i64 0,.int .i64 0]) (t:=26) ?hr ?_;(case hd=>rfl);(case hg=>rfl);(case hr=>first|(go_simp;done)|(go_simp;rfl));intro gb408 hg w40 hbox hb;have BK408:=aM (hbox);have GW408:=aM (zg hg (zb HB.out));have GE408:=aM (zg hg (zb HB.out));replace HB:=aM (below_step (zb HB.out) hb);clear hb hbox hg)|((with_reducible refine gate_callee (f:=60) rfl ?_);refine gm (some 10) Try.func60 #[.int .i64 a0,.int .i64 a1] ?_;(with_reducible refine (impl_gcd.calls k a0 a1 t409 _ A3.out).mono ?_);rintro e w' ⟨rfl,⟨nd,rfl⟩⟩;refine ⟨_,rfl,?_⟩;(try (rw [drewN_self w40];generalize hq_:World.drewN w40 _=w40;replace BK408:Aside0 (w40.heap[gb408]?=some (.cells #[.int .i64 0,.int .i64 0] 26 (0,0))):=⟨by rw [← hq_];exact (zk BK408.out)⟩;replace HB:Aside0 (Below w.heap.size w w40):=⟨by rw [← hq_];exact (zs HB.out)⟩;clear hq_)))));replace BK408:=aM (blk_drew BK408.out);replace HB:=aM (below_drew1 HB.out);refine start_ (n:=9) (S:=fun w'=>True) (ds:=[]) #[ff,ff,ff,ff,ff,ff,ff,ff,ff] (by kernel_rfl) rfl rfl trivial (fun hHeld=>?_);refine with_tabW impl_reduced.tab4 impl_reduced.bits4 (fun HT_ HW_=>?_);generalize w40.drew=w41 at BK408 HB hHeld ⊢;refine pu 0 (some 15) #[tt,ff,ff,ff,ff,ff,ff,ff,ff] rfl rfl HT_ ?_;refine pu 1 (some 16) #[tt,tt,ff,ff,ff,ff,ff,ff,ff] rfl rfl HT_ ?_;refine pu 2 (some 17) #[tt,tt,tt,ff,ff,ff,ff,ff,ff] rfl rfl HT_ ?_;refine pu 3 (some 18) #[tt,tt,tt,tt,ff,ff,ff,ff,ff] rfl rfl HT_ ?_;refine pu 4 (some 19) #[tt,tt,tt,tt,tt,ff,ff,ff,ff] rfl rfl HT_ ?_;refine pu 5 (some 20) #[tt,tt,tt,tt,tt,tt,ff,ff,ff] rfl rfl HT_ ?_;refine pu 6 (some 21) #[tt,tt,tt,tt,tt,tt,tt,ff,ff] rfl rfl HT_ ?_;refine one_ (i:=7) (N:=some 7) #[tt,tt,tt,tt,tt,tt,tt,tt,ff] rfl rfl (one_of HT_.out (by kernel_rfl)) (by decide) (fun K hK=>?_);refine box_step ?hg (N:=7) ?hd (cs:=#[.int .i64 0,.int .i64 0]) (t:=26) ?hr ?_;(case hd=>rfl);(case hg=>rfl);(case hr=>first|(go_simp;done)|(go_simp;rfl));intro gb412 hg w42 hbox hb;have BK412:=aM (hbox);have GW412:=aM (zg hg (zs HB.out));have GE412:=aM (zg hg (zs HB.out));replace HB:=aM (below_step (zs HB.out) hb);have NB408_412:=aM (zl hg (zk BK408.out));have NB412_408:=aM (zm hg (zk BK408.out));replace BK408:=aM (blk_below (g:=gb408) (o:=.cells #[.int .i64 0,.int .i64 0] 26 (0,0)) (zk BK408.out) hb);clear hb hbox hg;refine hK.out _ _ trivial (fun hHeld=>?_);clear hK K;refine norm_ (a':=?_) ?_ ?_;rotate_left
    ·show Act.put _ (some 7) _=_;simp only [Act.put,qa,qz,qs,i64_w,i32_w];rfl
    refine one_ (i:=8) (N:=none) #[tt,tt,tt,tt,tt,tt,tt,tt,tt] rfl rfl (one_of HT_.out (by kernel_rfl)) (by decide) (fun K hK=>?_);have hs43:w42.cell? ⟨gb412,0,none⟩=some (.int .i64 0):=(blk_cell BK412.out 0).trans rfl;have hfs43:=blk_frozen BK412.out 0;have hns43_0:=NB408_412.out;have hms43_0:=NB412_408.out;have hs44:w42.cell? ⟨gb412,1,none⟩=some (.int .i64 0):=(blk_cell BK412.out 1).trans rfl;have hfs44:=blk_frozen BK412.out 1;have hns44_0:=NB408_412.out;have hms44_0:=NB412_408.out;refine skip_ (w1:=?_) (by rfl) rfl ?_ ?_;rotate_left
    ·go_simp;rfl
    refine hK.out _ _ trivial (fun hHeld=>?_);clear hK K;refine done_ (done_of HT_.out (by kernel_rfl)) ?_;have hnb45:=NB412_408.out;have hnc45:=NB408_412.out;have hcz46_0:w42.cell? ⟨gb412,0,none⟩=some (.int .i64 0):=(blk_cell BK412.out 0).trans rfl;have hcz46_1:w42.cell? ⟨gb412,1,none⟩=some (.int .i64 0):=(blk_cell BK412.out 1).trans rfl;have hfz46_0:=blk_frozen BK412.out 0;have hfz46_1:=blk_frozen BK412.out 1;(try go_wp2_with (first|((with_reducible refine gate_callee (f:=74) rfl ?_);refine gm (some 23) Try.func74 #[.agg #[.int .i64 (wrap64 (Int.tdiv a0 t409)),.int .i64 (wrap64 (Int.tdiv a1 t409))]] ?_;(with_reducible refine (impl_IsRatio.calls k (wrap64 (Int.tdiv a0 t409)) (wrap64 (Int.tdiv a1 t409)) false _ A28.out).mono ?_);rintro e w47 ⟨rfl,hb⟩;refine ⟨_,rfl,?_⟩;replace BK408:=aM (blk_below (g:=gb408) (o:=.cells #[.int .i64 0,.int .i64 0] 26 (0,0)) (by (with_reducible repeat (first|refine blk_drewN ?_ _|refine blk_drew ?_|refine blk_alloc ?_ _));refine blk_far ?_ NB408_412.out _;(with_reducible repeat (first|refine blk_drewN ?_ _|refine blk_drew ?_|refine blk_alloc ?_ _));refine blk_far ?_ NB408_412.out _;(with_reducible repeat (first|refine blk_drewN ?_ _|refine blk_drew ?_|refine blk_alloc ?_ _));exact BK408.out) hb);replace BK412:=aM (blk_below (g:=gb412) (o:=.cells #[.int .i64 (wrap64 (Int.tdiv a0 t409)),.int .i64 (wrap64 (Int.tdiv a1 t409))] 26 (0,0)) (by (with_reducible repeat (first|refine blk_drewN ?_ _|refine blk_drew ?_|refine blk_alloc ?_ _));refine blk_put (cs:=#[.int .i64 (wrap64 (Int.tdiv a0 t409)),.int .i64 0]) ?_ 1 _ rfl;(with_reducible repeat (first|refine blk_drewN ?_ _|refine blk_drew ?_|refine blk_alloc ?_ _));refine blk_put (cs:=#[.int .i64 0,.int .i64 0]) ?_ 0 _ rfl;(with_reducible repeat (first|refine blk_drewN ?_ _|refine blk_drew ?_|refine blk_alloc ?_ _));exact BK412.out) hb);replace HB:=aM (below_step (zs HB.out) hb);(try clear hb);(try clear hb2);(try clear hk);(try clear hi);have hcz48_0:w47.cell? ⟨gb408,0,none⟩=some (.int .i64 0):=(blk_cell BK408.out 0).trans rfl;have hcz48_1:w47.cell? ⟨gb408,1,none⟩=some (.int .i64 0):=(blk_cell BK408.out 1).trans rfl;have hfz48_0:=blk_frozen BK408.out 0;have hfz48_1:=blk_frozen BK408.out 1)));refine bodyPost_ret (results_ct rfl _ _ gb408 26 #[.int .i64 0,.int .i64 0] (0,0) _ rfl (by (with_reducible repeat (first|refine blk_drewN ?_ _|refine blk_drew ?_|refine blk_alloc ?_ _));refine blk_put (cs:=#[.int .i64 0,.int .i64 0]) ?_ 1 _ rfl;(with_reducible repeat (first|refine blk_drewN ?_ _|refine blk_drew ?_|refine blk_alloc ?_ _));refine blk_put (cs:=#[.int .i64 0,.int .i64 0]) ?_ 0 _ rfl;(with_reducible repeat (first|refine blk_drewN ?_ _|refine blk_drew ?_|refine blk_alloc ?_ _));exact BK408.out) Try.underlying26 rfl (by kernel_rfl)) rfl ?_;exact ⟨by first|rfl|(simp [errW_none,errW_some]<;>rfl)|(simp [*,errW_none,errW_some]<;>rfl),zs HB.out⟩
mutual
def impl_ValueOf.j0 : Nat → List Int → Int → List (List Int) → Bool → Option (Int × Int × Bool)
 | 0, _, _, _, _ => none
 | k + 1, x2, x8, x9, x33 => if x33 = true then (some (0, 0, false)) else (impl_ValueOf.l0 k x2 x8 0 1 x9 (x9.length : Int) 0)
def impl_ValueOf.l0 : Nat → List Int → Int → Int → Int → List (List Int) → Int → Int → Option (Int × Int × Bool)
 | 0, _, _, _, _, _, _, _ => none
 | k + 1, x2, x8, x11, x12, x35, x36, x37 => if x37 < x36 then (if 0 ≤ x37 then (if x37 < (x35.length : Int) then ((impl_lead.f k (rd_L1 x35 x37)).bind fun t421 => (if 0 ≤ t421 then (if t421 < ((rd_L1 x35 x37).length : Int) then (if t421 < (x2.length : Int) then (if 0 ≤ x8 then (if x8 < ((rd_L1 x35 x37).length : Int) then ((impl_gcd.f k (wrap64 ((wrap64 (x11 * (rd (rd_L1 x35 x37) t421))) + (wrap64 ((wrap64 ((rd x2 t421) * (rd (rd_L1 x35 x37) x8))) * x12)))) (wrap64 (x12 * (rd (rd_L1 x35 x37) t421)))).bind fun t426 => (if t426 = 0 then (none) else (impl_ValueOf.l0 k x2 x8 (wrap64 (Int.tdiv (wrap64 ((wrap64 (x11 * (rd (rd_L1 x35 x37) t421))) + (wrap64 ((wrap64 ((rd x2 t421) * (rd (rd_L1 x35 x37) x8))) * x12)))) t426)) (wrap64 (Int.tdiv (wrap64 (x12 * (rd (rd_L1 x35 x37) t421))) t426)) x35 x36 (wrap64 (x37 + 1))))) else (none)) else (none)) else (none)) else (none)) else (none))) else (none)) else (none)) else ((impl_reduced.f k x11 x12).bind fun bt427 => (some (bt427.1, bt427.2.1, bt427.2.2)))
end
def impl_ValueOf.f (k : Nat) (l0 : List (List Int)) (l1 : List Int) (l2 : List Int) : Option (Int × Int × Bool) := (impl_solved.f k l0 l1 (l2.length : Int)).bind fun bt415 => (if bt415.2 = true then ((impl_IsInSpan.f k l0 l2).bind fun t419 => (impl_ValueOf.j0 k l2 (l2.length : Int) bt415.1 (!t419))) else (impl_ValueOf.j0 k l2 (l2.length : Int) bt415.1 true))
set_option maxHeartbeats 8000000 in
set_option maxRecDepth 100000 in
theorem impl_ValueOf.calls (k : Nat) (A0 : Option Addr) (c0 : Nat) (l0 : List (List Int)) (A1 : Option Addr) (c1 : Nat) (l1 : List Int) (A2 : Option Addr) (c2 : Nat) (l2 : List Int) (r1 : Int) (r2 : Int) (r3 : Bool) (w : World) (hr0 : Kd.C (Kd.slice 3 (Kd.int .i64)) w A0 l0.length l0) (hc0 : l0.length ≤ c0) (hr1 : Kd.C (Kd.int .i64) w A1 l1.length l1) (hc1 : l1.length ≤ c1) (hr2 : Kd.C (Kd.int .i64) w A2 l2.length l2) (hc2 : l2.length ≤ c2) (h : impl_ValueOf.f k l0 l1 l2 = some (r1, r2, r3)) :
 Calls Try.prog 19 #[.slice A0 l0.length c0, .slice A1 l1.length c1, .slice A2 l2.length c2] w fun e w' => e = .returned (.tuple #[.agg #[.int .i64 r1, .int .i64 r2], .bool r3]) ∧ Below w.heap.size w w' := by
 have hu26:=Try.underlying26;have HR0:=aM hr0;have HC0:=aM hc0;clear hr0 hc0;have HR1:=aM hr1;have HC1:=aM hc1;clear hr1 hc1;have HR2:=aM hr2;have HC2:=aM hc2;clear hr2 hc2;have HB:=aM (Below.refl w.heap.size w);have H:((impl_solved.f k l0 l1 (l2.length:Int)).bind fun bt415=>(if bt415.2=true then ((impl_IsInSpan.f k l0 l2).bind fun t419=>(impl_ValueOf.j0 k l2 (l2.length:Int) bt415.1 (!t419))) else (impl_ValueOf.j0 k l2 (l2.length:Int) bt415.1 true)))=some (r1,r2,r3):=h;clear h;obtain ⟨⟨t415,t418⟩,A4,H⟩:=bz H;dsimp only at H;have HC5:=aM H;clear H;go_enter Try.func19,Try.ntmps19;go_upto_region 3 with (first|((with_reducible refine gate_dst (N:=6) rfl ?_);refine box_event ?hg (N:=6) ?hd (cs:=#[.int .i64 0,.int .i64 0]) (t:=26) ?hr ?_;(case hd=>rfl);(case hg=>rfl);(case hr=>first|(go_simp;done)|(go_simp;rfl));intro gb414 hg w6 hbox hb;have BK414:=aM (hbox);have GW414:=aM (zg hg (zb HB.out));have GE414:=aM (zg hg (zb HB.out));replace HB:=aM (below_step (zb HB.out) hb);clear hb hbox hg)|(go_at_call 58;(with_reducible refine (impl_solved.calls k _ _ l0 _ _ l1 (l2.length:Int) t415 t418 _ ?side1 ?side2 ?side3 ?side4 A4.out).mono ?_);(case side1=>exact zc (Kd.C_below HR0.out HB.out));(case side2=>exact HC0.out);(case side3=>exact zc (Kd.C_below HR1.out HB.out));(case side4=>exact HC1.out);rintro e w7 ⟨v416,rfl,ho0,hb⟩;have HO417:=aM (Kd.N_lower (Kd.N_mono (ok':=fun k_=>k_≠gb414) ho0 (fun k_ hk_=>(Kd.freshB (g:=gb414) (o:=.cells #[.int .i64 0,.int .i64 0] 26 (0,0)) (zk BK414.out) k_ hk_))) (below_size (zs HB.out)));replace BK414:=aM (blk_below (g:=gb414) (o:=.cells #[.int .i64 0,.int .i64 0] 26 (0,0)) (zk BK414.out) hb);replace HB:=aM (below_step (zs HB.out) hb);(try clear hb);(try clear hb2);(try clear hk);(try clear hi);(try clear ho0)))
 (repeat (go_quiet (first|((with_reducible refine gate_dst (N:=6) rfl ?_);refine box_event ?hg (N:=6) ?hd (cs:=#[.int .i64 0,.int .i64 0]) (t:=26) ?hr ?_;(case hd=>rfl);(case hg=>rfl);(case hr=>first|(go_simp;done)|(go_simp;rfl));intro gb414 hg w6 hbox hb;have BK414:=aM (hbox);have GW414:=aM (zg hg (zb HB.out));have GE414:=aM (zg hg (zb HB.out));replace HB:=aM (below_step (zb HB.out) hb);clear hb hbox hg)|(go_at_call 58;(with_reducible refine (impl_solved.calls k _ _ l0 _ _ l1 (l2.length:Int) t415 t418 _ ?side1 ?side2 ?side3 ?side4 A4.out).mono ?_);(case side1=>exact zc (Kd.C_below HR0.out HB.out));(case side2=>exact HC0.out);(case side3=>exact zc (Kd.C_below HR1.out HB.out));(case side4=>exact HC1.out);rintro e w7 ⟨v416,rfl,ho0,hb⟩;have HO417:=aM (Kd.N_lower (Kd.N_mono (ok':=fun k_=>k_≠gb414) ho0 (fun k_ hk_=>(Kd.freshB (g:=gb414) (o:=.cells #[.int .i64 0,.int .i64 0] 26 (0,0)) (zk BK414.out) k_ hk_))) (below_size (zs HB.out)));replace BK414:=aM (blk_below (g:=gb414) (o:=.cells #[.int .i64 0,.int .i64 0] 26 (0,0)) (zk BK414.out) hb);replace HB:=aM (below_step (zs HB.out) hb);(try clear hb);(try clear hb2);(try clear hk);(try clear hi);(try clear ho0)));go_upto_region 3 with (first|((with_reducible refine gate_dst (N:=6) rfl ?_);refine box_event ?hg (N:=6) ?hd (cs:=#[.int .i64 0,.int .i64 0]) (t:=26) ?hr ?_;(case hd=>rfl);(case hg=>rfl);(case hr=>first|(go_simp;done)|(go_simp;rfl));intro gb414 hg w6 hbox hb;have BK414:=aM (hbox);have GW414:=aM (zg hg (zb HB.out));have GE414:=aM (zg hg (zb HB.out));replace HB:=aM (below_step (zb HB.out) hb);clear hb hbox hg)|(go_at_call 58;(with_reducible refine (impl_solved.calls k _ _ l0 _ _ l1 (l2.length:Int) t415 t418 _ ?side1 ?side2 ?side3 ?side4 A4.out).mono ?_);(case side1=>exact zc (Kd.C_below HR0.out HB.out));(case side2=>exact HC0.out);(case side3=>exact zc (Kd.C_below HR1.out HB.out));(case side4=>exact HC1.out);rintro e w7 ⟨v416,rfl,ho0,hb⟩;have HO417:=aM (Kd.N_lower (Kd.N_mono (ok':=fun k_=>k_≠gb414) ho0 (fun k_ hk_=>(Kd.freshB (g:=gb414) (o:=.cells #[.int .i64 0,.int .i64 0] 26 (0,0)) (zk BK414.out) k_ hk_))) (below_size (zs HB.out)));replace BK414:=aM (blk_below (g:=gb414) (o:=.cells #[.int .i64 0,.int .i64 0] 26 (0,0)) (zk BK414.out) hb);replace HB:=aM (below_step (zs HB.out) hb);(try clear hb);(try clear hb2);(try clear hk);(try clear hi);(try clear ho0)))));(try simp only [Act.put,qa,qz,qs]);go_cut [33] (fun v33 wc=>∃(kq:Nat) (x33_4:Bool),v33 = .bool x33_4∧Aside0 (impl_ValueOf.j0 kq l2 (l2.length:Int) t415 x33_4=some (r1,r2,r3))∧Aside0 (kq≤k)∧Aside0 (Kd.N (Kd.slice 3 (Kd.int .i64)) 23 wc w.heap.size (fun k_=>k_≠gb414) v416 t415)∧Aside0 (wc.heap[gb414]?=some (.cells #[.int .i64 0,.int .i64 0] 26 (0,0)))∧Aside0 (Below w.heap.size w wc))
 case first=>
  have H:=HC5.out;clear HC5;by_cases c8:t418=true
  ·subst c8;replace H:=ifT H;obtain ⟨t419,A9,H⟩:=bz H;have H':=aM H;clear H;go_wp2_with (first|(go_at_call 30;(with_reducible refine (impl_IsInSpan.calls k (fun k_=>k_<w.heap.size) _ _ l0 (fun k_=>k_<w.heap.size) _ _ l2 t419 _ ?side1 ?side2 A9.out).mono ?_);(case side1=>exact Kd.V_mk HC0.out (Kd.F_below (Kd.C_F (Kd.heap_slice 3 (Kd.heap_int .i64)) HR0.out) (zs HB.out)));(case side2=>exact Kd.V_mk HC2.out (Kd.F_below (Kd.C_F (Kd.heap_int .i64) HR2.out) (zs HB.out)));rintro e w10 ⟨rfl,hb⟩;replace HO417:=aM (Kd.N_below (zn HO417.out) hb);replace BK414:=aM (blk_below (g:=gb414) (o:=.cells #[.int .i64 0,.int .i64 0] 26 (0,0)) (zk BK414.out) hb);replace HB:=aM (below_step (zs HB.out) hb);(try clear hb);(try clear hb2);(try clear hk);(try clear hi)));(repeat (go_quiet (first|(go_at_call 30;(with_reducible refine (impl_IsInSpan.calls k (fun k_=>k_<w.heap.size) _ _ l0 (fun k_=>k_<w.heap.size) _ _ l2 t419 _ ?side1 ?side2 A9.out).mono ?_);(case side1=>exact Kd.V_mk HC0.out (Kd.F_below (Kd.C_F (Kd.heap_slice 3 (Kd.heap_int .i64)) HR0.out) (zs HB.out)));(case side2=>exact Kd.V_mk HC2.out (Kd.F_below (Kd.C_F (Kd.heap_int .i64) HR2.out) (zs HB.out)));rintro e w10 ⟨rfl,hb⟩;replace HO417:=aM (Kd.N_below (zn HO417.out) hb);replace BK414:=aM (blk_below (g:=gb414) (o:=.cells #[.int .i64 0,.int .i64 0] 26 (0,0)) (zk BK414.out) hb);replace HB:=aM (below_step (zs HB.out) hb);(try clear hb);(try clear hb2);(try clear hk);(try clear hi)));try go_wp2_with (first|(go_at_call 30;(with_reducible refine (impl_IsInSpan.calls k (fun k_=>k_<w.heap.size) _ _ l0 (fun k_=>k_<w.heap.size) _ _ l2 t419 _ ?side1 ?side2 A9.out).mono ?_);(case side1=>exact Kd.V_mk HC0.out (Kd.F_below (Kd.C_F (Kd.heap_slice 3 (Kd.heap_int .i64)) HR0.out) (zs HB.out)));(case side2=>exact Kd.V_mk HC2.out (Kd.F_below (Kd.C_F (Kd.heap_int .i64) HR2.out) (zs HB.out)));rintro e w10 ⟨rfl,hb⟩;replace HO417:=aM (Kd.N_below (zn HO417.out) hb);replace BK414:=aM (blk_below (g:=gb414) (o:=.cells #[.int .i64 0,.int .i64 0] 26 (0,0)) (zk BK414.out) hb);replace HB:=aM (below_step (zs HB.out) hb);(try clear hb);(try clear hb2);(try clear hk);(try clear hi)))));go_meet;(case rel=>exact ⟨_,(!t419),zt,H',⟨by first|omega|exact Nat.le_refl _⟩,⟨zn HO417.out⟩,⟨zk BK414.out⟩,⟨zs HB.out⟩⟩)
  ·replace c8:=Bool.eq_false_iff.mpr c8;subst c8;replace H:=ifF H;have H':=aM H;clear H;go_wp2;(repeat (go_quiet (fail);try go_wp2));go_meet;(case rel=>exact ⟨_,(true),zt,H',⟨by first|omega|exact Nat.le_refl _⟩,⟨zn HO417.out⟩,⟨zk BK414.out⟩,⟨zs HB.out⟩⟩)
 case rest=>
  clear HC5;(try clear c1);(try clear c2);(try clear p2);(try clear c8);obtain ⟨kq,x33_4,rfl,HA,HJ4,HO_9,BK414,HB⟩:=hcut;cases kq with
  | zero=>exact absurd HA.out (by simp [impl_ValueOf.j0])
  | succ kj4=>
   have H:=HA.out;clear HA;simp only [impl_ValueOf.j0] at H;by_cases c11:x33_4=true
   ·subst c11;replace H:=ifT H;simp only [Option.some.injEq,Prod.mk.injEq] at H;obtain ⟨rfl,rfl,rfl⟩:=H;have hcz12_0:wc.cell? ⟨gb414,0,none⟩=some (.int .i64 0):=(blk_cell BK414.out 0).trans rfl;have hcz12_1:wc.cell? ⟨gb414,1,none⟩=some (.int .i64 0):=(blk_cell BK414.out 1).trans rfl;have hfz12_0:=blk_frozen BK414.out 0;have hfz12_1:=blk_frozen BK414.out 1;go_wp2;(repeat (go_quiet (fail);try go_wp2));refine bodyPost_ret (results_ct rfl _ _ gb414 26 #[.int .i64 0,.int .i64 0] (0,0) _ rfl (by (with_reducible repeat (first|refine blk_drewN ?_ _|refine blk_drew ?_|refine blk_alloc ?_ _));refine blk_put (cs:=#[.int .i64 0,.int .i64 0]) ?_ 1 _ rfl;(with_reducible repeat (first|refine blk_drewN ?_ _|refine blk_drew ?_|refine blk_alloc ?_ _));refine blk_put (cs:=#[.int .i64 0,.int .i64 0]) ?_ 0 _ rfl;(with_reducible repeat (first|refine blk_drewN ?_ _|refine blk_drew ?_|refine blk_alloc ?_ _));exact BK414.out) Try.underlying26 rfl (by kernel_rfl)) rfl ?_;exact ⟨by first|rfl|(simp [errW_none,errW_some]<;>rfl)|(simp [*,errW_none,errW_some]<;>rfl),zs HB.out⟩
   ·replace c11:=Bool.eq_false_iff.mpr c11;subst c11;replace H:=ifF H;have H':=aM H;clear H;obtain ⟨Ao13,co13,eo13⟩:=Kd.N_slice HO_9.out;subst eo13;go_wp2;(repeat (go_quiet (fail);try go_wp2));go_loopg [11,12,37] kj4 (fun kq v11 v12 v37 w'=>∃(x11_2:Int) (x12_2:Int) (x37_2:Int),v11 = .int .i64 x11_2∧v12 = .int .i64 x12_2∧v37 = .int .i64 x37_2∧Aside0 (impl_ValueOf.l0 kq l2 (l2.length:Int) x11_2 x12_2 t415 (t415.length:Int) x37_2=some (r1,r2,r3))∧Aside0 (kq≤kj4)∧Aside0 (Kd.N (Kd.slice 3 (Kd.int .i64)) 23 w' w.heap.size (fun k_=>k_≠gb414) (.slice Ao13 t415.length co13) t415)∧Aside0 (w'.heap[gb414]?=some (.cells #[.int .i64 0,.int .i64 0] 26 (0,0)))∧Aside0 (Below w.heap.size w w'));(case atStart=>exact ⟨(0),(1),(0),zt,zt,zt,H',⟨Nat.le_refl _⟩,⟨zn HO_9.out⟩,⟨zk BK414.out⟩,⟨zs HB.out⟩⟩)
    case round=>
     clear H';(try clear c1);(try clear c2);(try clear p2);(try clear c8);(try clear c11);(try clear hcz12_0);(try clear hcz12_1);(try clear hfz12_0);(try clear hfz12_1);(try clear p2);obtain ⟨x11_2,x12_2,x37_2,rfl,rfl,rfl,HA,HK2,HO_35,BK414,HB⟩:=hrel;cases gk with
     | zero=>exact absurd HA.out (by simp [impl_ValueOf.l0])
     | succ k2=>
      have H:=HA.out;clear HA;simp only [impl_ValueOf.l0] at H;by_cases c14:x37_2<(t415.length:Int)
      ·rw [if_pos c14] at H;have c14b0:decide (x37_2<(t415.length:Int))=true:=decide_eq_true c14;clear c14;obtain ⟨c15b0,H⟩:=iN H;obtain ⟨c16b0,H⟩:=iN H;obtain ⟨t421,A17,H⟩:=bz H;obtain ⟨c18b0,H⟩:=iN H;obtain ⟨c19b0,H⟩:=iN H;obtain ⟨c20b0,H⟩:=iN H;obtain ⟨c21b0,H⟩:=iN H;have c21:=of_decide_eq_true c21b0;have c21b1:decide (0≤l2.length)=true:=decide_eq_true (by omega);clear c21;obtain ⟨c22b0,H⟩:=iN H;have c22:=of_decide_eq_true c22b0;have c22b1:decide (l2.length<(rd_L1 t415 x37_2).length)=true:=decide_eq_true (Int.ofNat_lt.mp c22);clear c22;obtain ⟨t426,A23,H⟩:=bz H;by_cases c24:t426=0
       ·rw [if_pos c24] at H;exact absurd H (by simp)
       ·rw [if_neg c24] at H;have c24b0:(t426 == 0)=false:=beq_eq_false_iff_ne.mpr c24;have c24b1:(t426 != 0)=true:=bne_iff_ne.mpr c24;have H':=aM H;clear H;have p420:0≤(x37_2:Int):=zd;have q420:x37_2<(t415.length:Int):=zd;obtain ⟨ad420,A420_0,c420_0,e420,hx420_0,hl420_0,hi420_0⟩:=at_L1 (Kd.N_reads' HO_35.out).2.2 x37_2 p420 q420;cases e420;obtain ⟨ce420,hce420,hMe420,hcc420⟩:=Kd.N_get HO_35.out [] x37_2 p420 (by first|exact q420|exact zd|(have e_:=(Kd.N_reads' HO_35.out).1;omega));obtain ⟨ua420_0,uc420_0,rfl,ul420_0,ge420_0⟩:=Kd.FK_slice_open hMe420;have hv420_0:=hcc420 0 _ rfl;rw [Nat.add_zero,show ((Kd.slice 3 (Kd.int .i64))).sz=1 from rfl,Nat.mul_one] at hv420_0;replace hv420_0:=Option.some.inj (hv420_0.symm.trans hx420_0);injection hv420_0 with hva_ hvn_ hvc_
        rw [hva_] at ge420_0;rw [hvc_] at ul420_0;have HL420_0:=aM (show Kd.V (Kd.int .i64) 3 _ w.heap.size _ _ (rd_L1 t415 x37_2) from Kd.V_mk ul420_0 ge420_0);clear hva_ hvn_ hvc_ ge420_0 ul420_0 hcc420 hce420;have HR420_0:=aM hi420_0;have HC420_0:=aM hl420_0;clear hi420_0 hl420_0;replace p420:=eq_true p420;replace q420:=eq_true q420;go_wp2_with (first|(go_at_call 59;(with_reducible refine (impl_lead.calls k2 _ _ (rd_L1 t415 x37_2) t421 _ ?side1 ?side2 A17.out).mono ?_);(case side1=>exact zc HR420_0.out);(case side2=>exact HC420_0.out);rintro e w' ⟨rfl,⟨nd,rfl⟩⟩;(try first|exact ⟨rfl,_,World.drewN_drewN _ _ _⟩|exact ⟨rfl,_,Eq.trans (World.drewN_drewN _ _ _) (congrArg (World.drewN _) (Nat.add_assoc _ _ _))⟩);have p422:0≤(t421:Int):=zd;have q422:t421<((rd_L1 t415 x37_2).length:Int):=zd;obtain ⟨ad422,e422,hx422_0⟩:=Kd.at_int (zc HR420_0.out) t421 p422 q422;cases e422;replace p422:=eq_true p422;replace q422:=eq_true q422;have p423:0≤(t421:Int):=zd;have q423:t421<(l2.length:Int):=zd;obtain ⟨ad423,e423,hx423_0⟩:=Kd.at_int HR2.out t421 p423 q423;cases e423;replace hx423_0:=(HB.out.cell (World.block_lt_of_cell? w _ hx423_0)).trans hx423_0;replace p423:=eq_true p423;replace q423:=eq_true q423;have p424:0≤((l2.length:Int):Int):=zd;have q424:(l2.length:Int)<((rd_L1 t415 x37_2).length:Int):=zd;obtain ⟨ad424,e424,hx424_0⟩:=Kd.at_int (zc HR420_0.out) (l2.length:Int) p424 q424;obtain rfl:ad422=ad424:=(by injection e424);(try simp only [Go.IntWalk.toNatUp] at hx424_0);replace p424:=eq_true p424;replace q424:=eq_true q424;have p425:0≤(t421:Int):=zd;have q425:t421<((rd_L1 t415 x37_2).length:Int):=zd;obtain ⟨ad425,e425,hx425_0⟩:=Kd.at_int (zc HR420_0.out) t421 p425 q425;obtain rfl:ad422=ad425:=(by injection e425);replace p425:=eq_true p425;replace q425:=eq_true q425)|(go_at_call 60;(with_reducible refine (impl_gcd.calls k2 (wrap64 ((wrap64 (x11_2*(rd (rd_L1 t415 x37_2) t421)))+(wrap64 ((wrap64 ((rd l2 t421)*(rd (rd_L1 t415 x37_2) (l2.length:Int))))*x12_2)))) (wrap64 (x12_2*(rd (rd_L1 t415 x37_2) t421))) t426 _ A23.out).mono ?_);rintro e w' ⟨rfl,⟨nd,rfl⟩⟩;(try first|exact ⟨rfl,_,World.drewN_drewN _ _ _⟩|exact ⟨rfl,_,Eq.trans (World.drewN_drewN _ _ _) (congrArg (World.drewN _) (Nat.add_assoc _ _ _))⟩)));(repeat (go_quiet (first|(go_at_call 59;(with_reducible refine (impl_lead.calls k2 _ _ (rd_L1 t415 x37_2) t421 _ ?side1 ?side2 A17.out).mono ?_);(case side1=>exact zc HR420_0.out);(case side2=>exact HC420_0.out);rintro e w' ⟨rfl,⟨nd,rfl⟩⟩;(try first|exact ⟨rfl,_,World.drewN_drewN _ _ _⟩|exact ⟨rfl,_,Eq.trans (World.drewN_drewN _ _ _) (congrArg (World.drewN _) (Nat.add_assoc _ _ _))⟩);have p422:0≤(t421:Int):=zd;have q422:t421<((rd_L1 t415 x37_2).length:Int):=zd;obtain ⟨ad422,e422,hx422_0⟩:=Kd.at_int (zc HR420_0.out) t421 p422 q422;cases e422;replace p422:=eq_true p422;replace q422:=eq_true q422;have p423:0≤(t421:Int):=zd;have q423:t421<(l2.length:Int):=zd;obtain ⟨ad423,e423,hx423_0⟩:=Kd.at_int HR2.out t421 p423 q423;cases e423;replace hx423_0:=(HB.out.cell (World.block_lt_of_cell? w _ hx423_0)).trans hx423_0;replace p423:=eq_true p423;replace q423:=eq_true q423;have p424:0≤((l2.length:Int):Int):=zd;have q424:(l2.length:Int)<((rd_L1 t415 x37_2).length:Int):=zd;obtain ⟨ad424,e424,hx424_0⟩:=Kd.at_int (zc HR420_0.out) (l2.length:Int) p424 q424;obtain rfl:ad422=ad424:=(by injection e424);(try simp only [Go.IntWalk.toNatUp] at hx424_0);replace p424:=eq_true p424;replace q424:=eq_true q424;have p425:0≤(t421:Int):=zd;have q425:t421<((rd_L1 t415 x37_2).length:Int):=zd;obtain ⟨ad425,e425,hx425_0⟩:=Kd.at_int (zc HR420_0.out) t421 p425 q425;obtain rfl:ad422=ad425:=(by injection e425);replace p425:=eq_true p425;replace q425:=eq_true q425)|(go_at_call 60;(with_reducible refine (impl_gcd.calls k2 (wrap64 ((wrap64 (x11_2*(rd (rd_L1 t415 x37_2) t421)))+(wrap64 ((wrap64 ((rd l2 t421)*(rd (rd_L1 t415 x37_2) (l2.length:Int))))*x12_2)))) (wrap64 (x12_2*(rd (rd_L1 t415 x37_2) t421))) t426 _ A23.out).mono ?_);rintro e w' ⟨rfl,⟨nd,rfl⟩⟩;(try first|exact ⟨rfl,_,World.drewN_drewN _ _ _⟩|exact ⟨rfl,_,Eq.trans (World.drewN_drewN _ _ _) (congrArg (World.drewN _) (Nat.add_assoc _ _ _))⟩)));try go_wp2_with (first|(go_at_call 59;(with_reducible refine (impl_lead.calls k2 _ _ (rd_L1 t415 x37_2) t421 _ ?side1 ?side2 A17.out).mono ?_);(case side1=>exact zc HR420_0.out);(case side2=>exact HC420_0.out);rintro e w' ⟨rfl,⟨nd,rfl⟩⟩;(try first|exact ⟨rfl,_,World.drewN_drewN _ _ _⟩|exact ⟨rfl,_,Eq.trans (World.drewN_drewN _ _ _) (congrArg (World.drewN _) (Nat.add_assoc _ _ _))⟩);have p422:0≤(t421:Int):=zd;have q422:t421<((rd_L1 t415 x37_2).length:Int):=zd;obtain ⟨ad422,e422,hx422_0⟩:=Kd.at_int (zc HR420_0.out) t421 p422 q422;cases e422;replace p422:=eq_true p422;replace q422:=eq_true q422;have p423:0≤(t421:Int):=zd;have q423:t421<(l2.length:Int):=zd;obtain ⟨ad423,e423,hx423_0⟩:=Kd.at_int HR2.out t421 p423 q423;cases e423;replace hx423_0:=(HB.out.cell (World.block_lt_of_cell? w _ hx423_0)).trans hx423_0;replace p423:=eq_true p423;replace q423:=eq_true q423;have p424:0≤((l2.length:Int):Int):=zd;have q424:(l2.length:Int)<((rd_L1 t415 x37_2).length:Int):=zd;obtain ⟨ad424,e424,hx424_0⟩:=Kd.at_int (zc HR420_0.out) (l2.length:Int) p424 q424;obtain rfl:ad422=ad424:=(by injection e424);(try simp only [Go.IntWalk.toNatUp] at hx424_0);replace p424:=eq_true p424;replace q424:=eq_true q424;have p425:0≤(t421:Int):=zd;have q425:t421<((rd_L1 t415 x37_2).length:Int):=zd;obtain ⟨ad425,e425,hx425_0⟩:=Kd.at_int (zc HR420_0.out) t421 p425 q425;obtain rfl:ad422=ad425:=(by injection e425);replace p425:=eq_true p425;replace q425:=eq_true q425)|(go_at_call 60;(with_reducible refine (impl_gcd.calls k2 (wrap64 ((wrap64 (x11_2*(rd (rd_L1 t415 x37_2) t421)))+(wrap64 ((wrap64 ((rd l2 t421)*(rd (rd_L1 t415 x37_2) (l2.length:Int))))*x12_2)))) (wrap64 (x12_2*(rd (rd_L1 t415 x37_2) t421))) t426 _ A23.out).mono ?_);rintro e w' ⟨rfl,⟨nd,rfl⟩⟩;(try first|exact ⟨rfl,_,World.drewN_drewN _ _ _⟩|exact ⟨rfl,_,Eq.trans (World.drewN_drewN _ _ _) (congrArg (World.drewN _) (Nat.add_assoc _ _ _))⟩)))));go_roundg k2;(case measure=>have:=HJ4.out;have:=HK2.out;omega);(case rel=>exact ⟨(wrap64 (Int.tdiv (wrap64 ((wrap64 (x11_2*(rd (rd_L1 t415 x37_2) t421)))+(wrap64 ((wrap64 ((rd l2 t421)*(rd (rd_L1 t415 x37_2) (l2.length:Int))))*x12_2)))) t426)),(wrap64 (Int.tdiv (wrap64 (x12_2*(rd (rd_L1 t415 x37_2) t421))) t426)),(wrap64 (x37_2+1)),zt,zt,zt,H',⟨by have:=HJ4.out;have:=HK2.out;omega⟩,⟨zn HO_35.out⟩,⟨zk BK414.out⟩,⟨zs HB.out⟩⟩)
      ·rw [if_neg c14] at H;have c14b0:decide (x37_2<(t415.length:Int))=false:=decide_eq_false c14;clear c14;obtain ⟨⟨t427,t428,t429⟩,A25,H⟩:=bz H;dsimp only at H;simp only [Option.some.injEq,Prod.mk.injEq] at H;obtain ⟨rfl,rfl,rfl⟩:=H;go_wp2_with (first|(go_at_call 61;(with_reducible refine (impl_reduced.calls k2 x11_2 x12_2 t427 t428 t429 _ A25.out).mono ?_);rintro e w26 ⟨rfl,hb⟩;replace HO_35:=aM (Kd.N_below (zn HO_35.out) hb);replace BK414:=aM (blk_below (g:=gb414) (o:=.cells #[.int .i64 0,.int .i64 0] 26 (0,0)) (zk BK414.out) hb);replace HB:=aM (below_step (zs HB.out) hb);(try clear hb);(try clear hb2);(try clear hk);(try clear hi);have hcz27_0:w26.cell? ⟨gb414,0,none⟩=some (.int .i64 0):=(blk_cell BK414.out 0).trans rfl;have hcz27_1:w26.cell? ⟨gb414,1,none⟩=some (.int .i64 0):=(blk_cell BK414.out 1).trans rfl;have hfz27_0:=blk_frozen BK414.out 0;have hfz27_1:=blk_frozen BK414.out 1));(repeat (go_quiet (first|(go_at_call 61;(with_reducible refine (impl_reduced.calls k2 x11_2 x12_2 t427 t428 t429 _ A25.out).mono ?_);rintro e w26 ⟨rfl,hb⟩;replace HO_35:=aM (Kd.N_below (zn HO_35.out) hb);replace BK414:=aM (blk_below (g:=gb414) (o:=.cells #[.int .i64 0,.int .i64 0] 26 (0,0)) (zk BK414.out) hb);replace HB:=aM (below_step (zs HB.out) hb);(try clear hb);(try clear hb2);(try clear hk);(try clear hi);have hcz27_0:w26.cell? ⟨gb414,0,none⟩=some (.int .i64 0):=(blk_cell BK414.out 0).trans rfl;have hcz27_1:w26.cell? ⟨gb414,1,none⟩=some (.int .i64 0):=(blk_cell BK414.out 1).trans rfl;have hfz27_0:=blk_frozen BK414.out 0;have hfz27_1:=blk_frozen BK414.out 1));try go_wp2_with (first|(go_at_call 61;(with_reducible refine (impl_reduced.calls k2 x11_2 x12_2 t427 t428 t429 _ A25.out).mono ?_);rintro e w26 ⟨rfl,hb⟩;replace HO_35:=aM (Kd.N_below (zn HO_35.out) hb);replace BK414:=aM (blk_below (g:=gb414) (o:=.cells #[.int .i64 0,.int .i64 0] 26 (0,0)) (zk BK414.out) hb);replace HB:=aM (below_step (zs HB.out) hb);(try clear hb);(try clear hb2);(try clear hk);(try clear hi);have hcz27_0:w26.cell? ⟨gb414,0,none⟩=some (.int .i64 0):=(blk_cell BK414.out 0).trans rfl;have hcz27_1:w26.cell? ⟨gb414,1,none⟩=some (.int .i64 0):=(blk_cell BK414.out 1).trans rfl;have hfz27_0:=blk_frozen BK414.out 0;have hfz27_1:=blk_frozen BK414.out 1))));refine bodyPost_ret (results_ct rfl _ _ gb414 26 #[.int .i64 t427,.int .i64 t428] (0,0) _ rfl (by (with_reducible repeat (first|refine blk_drewN ?_ _|refine blk_drew ?_|refine blk_alloc ?_ _));refine blk_put (cs:=#[.int .i64 t427,.int .i64 0]) ?_ 1 _ rfl;(with_reducible repeat (first|refine blk_drewN ?_ _|refine blk_drew ?_|refine blk_alloc ?_ _));refine blk_put (cs:=#[.int .i64 0,.int .i64 0]) ?_ 0 _ rfl;(with_reducible repeat (first|refine blk_drewN ?_ _|refine blk_drew ?_|refine blk_alloc ?_ _));exact BK414.out) Try.underlying26 rfl (by kernel_rfl)) rfl ?_;exact ⟨by first|rfl|(simp [errW_none,errW_some]<;>rfl)|(simp [*,errW_none,errW_some]<;>rfl),zs HB.out⟩
end Go.Proofs.Ytojkepidkmkmpaa.PFnExactValueOf
end
section
namespace Go.Proofs.Ytojkepidkmkmpaa.PFnExactValueOf
open Go.Proofs.YtojkepidkmkmpaaW.PrintWords.Aside0 renaming mk → aM
open List renaming setIfInBounds_toArray → qa, set_cons_zero → qz, set_cons_succ → qs
open Bool renaming true → tt, false → ff
open Option renaming bind_eq_some_iff → bE

open Go.RowKit Go.Proofs.YtojkepidkmkmpaaW.PrintWords Go.Proofs.YtojkepidkmkmpaaW.PrintLast Go.Proofs.YtojkepidkmkmpaaW.PrintMore
attribute [local go_sem] max2_int min2_int max_two min_two max_three min_three max_four min_four
set_option linter.unusedVariables false
set_option linter.unusedSimpArgs false
def laws_eqRatio.f (a0_0 : Int) (a0_1 : Int) (a1_0 : Int) (a1_1 : Int) : Option (Bool) := if a0_0 = a1_0 then (if a0_1 = a1_1 then (some true) else (some false)) else (some false)
set_option maxHeartbeats 8000000 in
set_option maxRecDepth 100000 in
theorem laws_eqRatio.calls (a0_0 : Int) (a0_1 : Int) (a1_0 : Int) (a1_1 : Int) (r : Bool) (w : World) (h : laws_eqRatio.f a0_0 a0_1 a1_0 a1_1 = some r) :
 Calls Try.prog 20 #[.agg #[.int .i64 a0_0, .int .i64 a0_1], .agg #[.int .i64 a1_0, .int .i64 a1_1]] w fun e w' => e = .returned (.bool r) ∧ Below w.heap.size w w' := by
 have hu26:=Try.underlying26;have HB:=aM (Below.refl w.heap.size w);have H:(if a0_0=a1_0 then (if a0_1=a1_1 then (some true) else (some false)) else (some false))=some r:=h;clear h;by_cases c3:a0_0=a1_0
 ·rw [if_pos c3] at H;have c3b0:(a0_0 == a1_0)=true:=beq_iff_eq.mpr c3;have c3b1:(a0_0 != a1_0)=false:=bne_eq_false_iff_eq.mpr c3;clear c3;by_cases c4:a0_1=a1_1
  ·rw [if_pos c4] at H;have c4b0:(a0_1 == a1_1)=true:=beq_iff_eq.mpr c4;have c4b1:(a0_1 != a1_1)=false:=bne_eq_false_iff_eq.mpr c4;clear c4;obtain rfl:=Option.some.inj H;go_enter Try.func20,Try.ntmps20;go_wp2_with (first|((with_reducible refine gate_dst (N:=2) rfl ?_);refine box_event ?hg (N:=2) ?hd (cs:=#[.int .i64 a0_0,.int .i64 a0_1]) (t:=26) ?hr ?_;(case hd=>rfl);(case hg=>rfl);(case hr=>first|(go_simp;done)|(go_simp;rfl));intro gb430 hg w5 hbox hb;have BK430:=aM (hbox);have GW430:=aM (zg hg (zb HB.out));have GE430:=aM (zg hg (zb HB.out));replace HB:=aM (below_step (zb HB.out) hb);clear hb hbox hg)|((with_reducible refine gate_dst (N:=3) rfl ?_);refine box_event ?hg (N:=3) ?hd (cs:=#[.int .i64 a1_0,.int .i64 a1_1]) (t:=26) ?hr ?_;(case hd=>rfl);(case hg=>rfl);(case hr=>first|(go_simp;done)|(go_simp;rfl));intro gb431 hg w6 hbox hb;have BK431:=aM (hbox);have GW431:=aM (zg hg (zs HB.out));have GE431:=aM (zg hg (zs HB.out));replace HB:=aM (below_step (zs HB.out) hb);have NB430_431:=aM (zl hg (zk BK430.out));have NB431_430:=aM (zm hg (zk BK430.out));replace BK430:=aM (blk_below (g:=gb430) (o:=.cells #[.int .i64 a0_0,.int .i64 a0_1] 26 (0,0)) (zk BK430.out) hb);clear hb hbox hg;have hnb7:=NB430_431.out;have hnc7:=NB431_430.out;have hcz8_0:w6.cell? ⟨gb430,0,none⟩=some (.int .i64 a0_0):=(blk_cell BK430.out 0).trans rfl;have hcz8_1:w6.cell? ⟨gb430,1,none⟩=some (.int .i64 a0_1):=(blk_cell BK430.out 1).trans rfl;have hfz8_0:=blk_frozen BK430.out 0;have hfz8_1:=blk_frozen BK430.out 1;have hcz9_0:w6.cell? ⟨gb431,0,none⟩=some (.int .i64 a1_0):=(blk_cell BK431.out 0).trans rfl;have hcz9_1:w6.cell? ⟨gb431,1,none⟩=some (.int .i64 a1_1):=(blk_cell BK431.out 1).trans rfl;have hfz9_0:=blk_frozen BK431.out 0;have hfz9_1:=blk_frozen BK431.out 1));go_ret;exact ⟨by first|rfl|(simp [errW_none,errW_some]<;>rfl)|(simp [*,errW_none,errW_some]<;>rfl),zs HB.out⟩
  ·rw [if_neg c4] at H;have c4b0:(a0_1 == a1_1)=false:=beq_eq_false_iff_ne.mpr c4;have c4b1:(a0_1 != a1_1)=true:=bne_iff_ne.mpr c4;obtain rfl:=Option.some.inj H;go_enter Try.func20,Try.ntmps20;go_wp2_with (first|((with_reducible refine gate_dst (N:=2) rfl ?_);refine box_event ?hg (N:=2) ?hd (cs:=#[.int .i64 a0_0,.int .i64 a0_1]) (t:=26) ?hr ?_;(case hd=>rfl);(case hg=>rfl);(case hr=>first|(go_simp;done)|(go_simp;rfl));intro gb430 hg w10 hbox hb;have BK430:=aM (hbox);have GW430:=aM (zg hg (zb HB.out));have GE430:=aM (zg hg (zb HB.out));replace HB:=aM (below_step (zb HB.out) hb);clear hb hbox hg)|((with_reducible refine gate_dst (N:=3) rfl ?_);refine box_event ?hg (N:=3) ?hd (cs:=#[.int .i64 a1_0,.int .i64 a1_1]) (t:=26) ?hr ?_;(case hd=>rfl);(case hg=>rfl);(case hr=>first|(go_simp;done)|(go_simp;rfl));intro gb431 hg w11 hbox hb;have BK431:=aM (hbox);have GW431:=aM (zg hg (zs HB.out));have GE431:=aM (zg hg (zs HB.out));replace HB:=aM (below_step (zs HB.out) hb);have NB430_431:=aM (zl hg (zk BK430.out));have NB431_430:=aM (zm hg (zk BK430.out));replace BK430:=aM (blk_below (g:=gb430) (o:=.cells #[.int .i64 a0_0,.int .i64 a0_1] 26 (0,0)) (zk BK430.out) hb);clear hb hbox hg;have hnb12:=NB430_431.out;have hnc12:=NB431_430.out;have hcz13_0:w11.cell? ⟨gb430,0,none⟩=some (.int .i64 a0_0):=(blk_cell BK430.out 0).trans rfl;have hcz13_1:w11.cell? ⟨gb430,1,none⟩=some (.int .i64 a0_1):=(blk_cell BK430.out 1).trans rfl;have hfz13_0:=blk_frozen BK430.out 0;have hfz13_1:=blk_frozen BK430.out 1;have hcz14_0:w11.cell? ⟨gb431,0,none⟩=some (.int .i64 a1_0):=(blk_cell BK431.out 0).trans rfl;have hcz14_1:w11.cell? ⟨gb431,1,none⟩=some (.int .i64 a1_1):=(blk_cell BK431.out 1).trans rfl;have hfz14_0:=blk_frozen BK431.out 0;have hfz14_1:=blk_frozen BK431.out 1));go_ret;exact ⟨by first|rfl|(simp [errW_none,errW_some]<;>rfl)|(simp [*,errW_none,errW_some]<;>rfl),zs HB.out⟩
 ·rw [if_neg c3] at H;have c3b0:(a0_0 == a1_0)=false:=beq_eq_false_iff_ne.mpr c3;have c3b1:(a0_0 != a1_0)=true:=bne_iff_ne.mpr c3;obtain rfl:=Option.some.inj H;go_enter Try.func20,Try.ntmps20;go_wp2_with (first|((with_reducible refine gate_dst (N:=2) rfl ?_);refine box_event ?hg (N:=2) ?hd (cs:=#[.int .i64 a0_0,.int .i64 a0_1]) (t:=26) ?hr ?_;(case hd=>rfl);(case hg=>rfl);(case hr=>first|(go_simp;done)|(go_simp;rfl));intro gb430 hg w15 hbox hb;have BK430:=aM (hbox);have GW430:=aM (zg hg (zb HB.out));have GE430:=aM (zg hg (zb HB.out));replace HB:=aM (below_step (zb HB.out) hb);clear hb hbox hg)|((with_reducible refine gate_dst (N:=3) rfl ?_);refine box_event ?hg (N:=3) ?hd (cs:=#[.int .i64 a1_0,.int .i64 a1_1]) (t:=26) ?hr ?_;(case hd=>rfl);(case hg=>rfl);(case hr=>first|(go_simp;done)|(go_simp;rfl));intro gb431 hg w16 hbox hb;have BK431:=aM (hbox);have GW431:=aM (zg hg (zs HB.out));have GE431:=aM (zg hg (zs HB.out));replace HB:=aM (below_step (zs HB.out) hb);have NB430_431:=aM (zl hg (zk BK430.out));have NB431_430:=aM (zm hg (zk BK430.out));replace BK430:=aM (blk_below (g:=gb430) (o:=.cells #[.int .i64 a0_0,.int .i64 a0_1] 26 (0,0)) (zk BK430.out) hb);clear hb hbox hg;have hnb17:=NB430_431.out;have hnc17:=NB431_430.out;have hcz18_0:w16.cell? ⟨gb430,0,none⟩=some (.int .i64 a0_0):=(blk_cell BK430.out 0).trans rfl;have hcz18_1:w16.cell? ⟨gb430,1,none⟩=some (.int .i64 a0_1):=(blk_cell BK430.out 1).trans rfl;have hfz18_0:=blk_frozen BK430.out 0;have hfz18_1:=blk_frozen BK430.out 1;have hcz19_0:w16.cell? ⟨gb431,0,none⟩=some (.int .i64 a1_0):=(blk_cell BK431.out 0).trans rfl;have hcz19_1:w16.cell? ⟨gb431,1,none⟩=some (.int .i64 a1_1):=(blk_cell BK431.out 1).trans rfl;have hfz19_0:=blk_frozen BK431.out 0;have hfz19_1:=blk_frozen BK431.out 1));go_ret;exact ⟨by first|rfl|(simp [errW_none,errW_some]<;>rfl)|(simp [*,errW_none,errW_some]<;>rfl),zs HB.out⟩
def laws_eqIntS.l0 : Nat → List Int → List Int → Int → Option (Bool)
 | 0, _, _, _ => none
 | k + 1, x0, x1, x5 => if x5 < (x0.length : Int) then (if 0 ≤ x5 then (if x5 < (x1.length : Int) then (if (rd x0 x5) = (rd x1 x5) then (laws_eqIntS.l0 k x0 x1 (wrap64 (x5 + 1))) else (some false)) else (none)) else (none)) else (some true)
def laws_eqIntS.f (k : Nat) (l0 : List Int) (l1 : List Int) : Option (Bool) := if (l0.length : Int) = (l1.length : Int) then (laws_eqIntS.l0 k l0 l1 0) else (some false)
set_option maxHeartbeats 8000000 in
set_option maxRecDepth 100000 in
theorem laws_eqIntS.calls (k : Nat) (A0 : Option Addr) (c0 : Nat) (l0 : List Int) (A1 : Option Addr) (c1 : Nat) (l1 : List Int) (r : Bool) (w : World) (hr0 : Kd.C (Kd.int .i64) w A0 l0.length l0) (hc0 : l0.length ≤ c0) (hr1 : Kd.C (Kd.int .i64) w A1 l1.length l1) (hc1 : l1.length ≤ c1) (h : laws_eqIntS.f k l0 l1 = some r) :
 Calls Try.prog 22 #[.slice A0 l0.length c0, .slice A1 l1.length c1] w fun e w' => e = .returned (.bool r) ∧ Drawn0 w w' := by
 have HR0:=aM hr0;have HC0:=aM hc0;clear hr0 hc0;have HR1:=aM hr1;have HC1:=aM hc1;clear hr1 hc1;have H:(if (l0.length:Int)=(l1.length:Int) then (laws_eqIntS.l0 k l0 l1 0) else (some false))=some r:=h;clear h;by_cases c3:(l0.length:Int)=(l1.length:Int)
 ·rw [if_pos c3] at H;have c3b0:((l0.length:Int) == (l1.length:Int))=true:=beq_iff_eq.mpr c3;have c3b1:((l0.length:Int) != (l1.length:Int))=false:=bne_eq_false_iff_eq.mpr c3;have c3b2:(l0.length == l1.length)=true:=(by first|simpa using c3|(simp at c3 ⊢;omega));clear c3;have H':=aM H;clear H;go_enter Try.func22,Try.ntmps22;go_wp2;(repeat (go_quiet (fail);try go_wp2));go_loopg [5] k (fun kq v5 w'=>∃(x5_1:Int),v5 = .int .i64 x5_1∧Aside0 (laws_eqIntS.l0 kq l0 l1 x5_1=some r)∧Aside0 (kq≤k)∧Drawn0 w w');(case atStart=>exact ⟨(0),zt,H',⟨Nat.le_refl _⟩,by repeat (first|exact Drawn0.refl _|apply Drawn0.step)⟩)
  case round=>
   clear H';(try clear c1);(try clear c2);(try clear p2);(try clear c3);(try clear c3b0);(try clear c3b1);(try clear c3b2);obtain ⟨x5_1,rfl,HA,HK1,⟨m1,rfl⟩⟩:=hrel;cases gk with
   | zero=>exact absurd HA.out (by simp [laws_eqIntS.l0])
   | succ k1=>
    have H:=HA.out;clear HA;simp only [laws_eqIntS.l0] at H;by_cases c4:x5_1<(l0.length:Int)
    ·rw [if_pos c4] at H;have c4b0:decide (x5_1<(l0.length:Int))=true:=decide_eq_true c4;clear c4;obtain ⟨c5b0,H⟩:=iN H;obtain ⟨c6b0,H⟩:=iN H;by_cases c7:(rd l0 x5_1)=(rd l1 x5_1)
     ·rw [if_pos c7] at H;have c7b0:((rd l0 x5_1) == (rd l1 x5_1))=true:=beq_iff_eq.mpr c7;have c7b1:((rd l0 x5_1) != (rd l1 x5_1))=false:=bne_eq_false_iff_eq.mpr c7;clear c7;have H':=aM H;clear H;have p432:0≤(x5_1:Int):=zd;have q432:x5_1<(l0.length:Int):=zd;obtain ⟨ad432,e432,hx432_0⟩:=Kd.at_int HR0.out x5_1 p432 q432;cases e432;replace p432:=eq_true p432;replace q432:=eq_true q432;have p433:0≤(x5_1:Int):=zd;have q433:x5_1<(l1.length:Int):=zd;obtain ⟨ad433,e433,hx433_0⟩:=Kd.at_int HR1.out x5_1 p433 q433;cases e433;replace p433:=eq_true p433;replace q433:=eq_true q433;go_wp2;(repeat (go_quiet (fail);try go_wp2));go_roundg k1;(case measure=>have:=HK1.out;omega);(case rel=>exact ⟨(wrap64 (x5_1+1)),zt,H',⟨by have:=HK1.out;omega⟩,by repeat (first|exact Drawn0.refl _|apply Drawn0.step)⟩)
     ·rw [if_neg c7] at H;have c7b0:((rd l0 x5_1) == (rd l1 x5_1))=false:=beq_eq_false_iff_ne.mpr c7;have c7b1:((rd l0 x5_1) != (rd l1 x5_1))=true:=bne_iff_ne.mpr c7;obtain rfl:=Option.some.inj H;have p432:0≤(x5_1:Int):=zd;have q432:x5_1<(l0.length:Int):=zd;obtain ⟨ad432,e432,hx432_0⟩:=Kd.at_int HR0.out x5_1 p432 q432;cases e432;replace p432:=eq_true p432;replace q432:=eq_true q432;have p433:0≤(x5_1:Int):=zd;have q433:x5_1<(l1.length:Int):=zd;obtain ⟨ad433,e433,hx433_0⟩:=Kd.at_int HR1.out x5_1 p433 q433;cases e433;replace p433:=eq_true p433;replace q433:=eq_true q433;go_wp2;(repeat (go_quiet (fail);try go_wp2));go_ret;exact ⟨zt,zz⟩
    ·rw [if_neg c4] at H;have c4b0:decide (x5_1<(l0.length:Int))=false:=decide_eq_false c4;clear c4;obtain rfl:=Option.some.inj H;go_wp2;(repeat (go_quiet (fail);try go_wp2));go_ret;exact ⟨zt,zz⟩
 ·rw [if_neg c3] at H;have c3b0:((l0.length:Int) == (l1.length:Int))=false:=beq_eq_false_iff_ne.mpr c3;have c3b1:((l0.length:Int) != (l1.length:Int))=true:=bne_iff_ne.mpr c3;have c3b2:(l0.length == l1.length)=false:=(by first|simpa using c3|(simp at c3 ⊢;omega));obtain rfl:=Option.some.inj H;go_enter Try.func22,Try.ntmps22;go_wp2;(repeat (go_quiet (fail);try go_wp2));go_ret;exact ⟨zt,zz⟩
def laws_eqIntSS.l0 : Nat → List (List Int) → List (List Int) → Int → Option (Bool)
 | 0, _, _, _ => none
 | k + 1, x0, x1, x5 => if x5 < (x0.length : Int) then (if 0 ≤ x5 then (if x5 < (x1.length : Int) then ((laws_eqIntS.f k (rd_L1 x0 x5) (rd_L1 x1 x5)).bind fun t436 => (if t436 = true then (laws_eqIntSS.l0 k x0 x1 (wrap64 (x5 + 1))) else (some false))) else (none)) else (none)) else (some true)
def laws_eqIntSS.f (k : Nat) (l0 : List (List Int)) (l1 : List (List Int)) : Option (Bool) := if (l0.length : Int) = (l1.length : Int) then (laws_eqIntSS.l0 k l0 l1 0) else (some false)
set_option maxHeartbeats 8000000 in
set_option maxRecDepth 100000 in
theorem laws_eqIntSS.calls (k : Nat) (A0 : Option Addr) (c0 : Nat) (l0 : List (List Int)) (A1 : Option Addr) (c1 : Nat) (l1 : List (List Int)) (r : Bool) (w : World) (hr0 : Kd.C (Kd.slice 3 (Kd.int .i64)) w A0 l0.length l0) (hc0 : l0.length ≤ c0) (hr1 : Kd.C (Kd.slice 3 (Kd.int .i64)) w A1 l1.length l1) (hc1 : l1.length ≤ c1) (h : laws_eqIntSS.f k l0 l1 = some r) :
 Calls Try.prog 21 #[.slice A0 l0.length c0, .slice A1 l1.length c1] w fun e w' => e = .returned (.bool r) ∧ Drawn0 w w' := by
 have HR0:=aM hr0;have HC0:=aM hc0;clear hr0 hc0;have HR1:=aM hr1;have HC1:=aM hc1;clear hr1 hc1;have H:(if (l0.length:Int)=(l1.length:Int) then (laws_eqIntSS.l0 k l0 l1 0) else (some false))=some r:=h;clear h;by_cases c3:(l0.length:Int)=(l1.length:Int)
 ·rw [if_pos c3] at H;have c3b0:((l0.length:Int) == (l1.length:Int))=true:=beq_iff_eq.mpr c3;have c3b1:((l0.length:Int) != (l1.length:Int))=false:=bne_eq_false_iff_eq.mpr c3;have c3b2:(l0.length == l1.length)=true:=(by first|simpa using c3|(simp at c3 ⊢;omega));clear c3;have H':=aM H;clear H;go_enter Try.func21,Try.ntmps21;go_wp2;(repeat (go_quiet (fail);try go_wp2));go_loopg [5] k (fun kq v5 w'=>∃(x5_1:Int),v5 = .int .i64 x5_1∧Aside0 (laws_eqIntSS.l0 kq l0 l1 x5_1=some r)∧Aside0 (kq≤k)∧Drawn0 w w');(case atStart=>exact ⟨(0),zt,H',⟨Nat.le_refl _⟩,by repeat (first|exact Drawn0.refl _|apply Drawn0.step)⟩)
  case round=>
   clear H';(try clear c1);(try clear c2);(try clear p2);(try clear c3);(try clear c3b0);(try clear c3b1);(try clear c3b2);obtain ⟨x5_1,rfl,HA,HK1,⟨m1,rfl⟩⟩:=hrel;cases gk with
   | zero=>exact absurd HA.out (by simp [laws_eqIntSS.l0])
   | succ k1=>
    have H:=HA.out;clear HA;simp only [laws_eqIntSS.l0] at H;by_cases c4:x5_1<(l0.length:Int)
    ·rw [if_pos c4] at H;have c4b0:decide (x5_1<(l0.length:Int))=true:=decide_eq_true c4;clear c4;obtain ⟨c5b0,H⟩:=iN H;obtain ⟨c6b0,H⟩:=iN H;obtain ⟨t436,A7,H⟩:=bz H;by_cases c8:t436=true
     ·subst c8;replace H:=ifT H;have H':=aM H;clear H;have p434:0≤(x5_1:Int):=zd;have q434:x5_1<(l0.length:Int):=zd;obtain ⟨ad434,A434_0,c434_0,e434,hx434_0,hl434_0,hi434_0⟩:=at_L1 HR0.out x5_1 p434 q434;cases e434;have HR434_0:=aM hi434_0;have HC434_0:=aM hl434_0;clear hi434_0 hl434_0;replace p434:=eq_true p434;replace q434:=eq_true q434;have p435:0≤(x5_1:Int):=zd;have q435:x5_1<(l1.length:Int):=zd;obtain ⟨ad435,A435_0,c435_0,e435,hx435_0,hl435_0,hi435_0⟩:=at_L1 HR1.out x5_1 p435 q435;cases e435;have HR435_0:=aM hi435_0;have HC435_0:=aM hl435_0;clear hi435_0 hl435_0;replace p435:=eq_true p435;replace q435:=eq_true q435;go_wp2_with (first|(go_at_call 22;(with_reducible refine (laws_eqIntS.calls k1 _ _ (rd_L1 l0 x5_1) _ _ (rd_L1 l1 x5_1) true _ ?side1 ?side2 ?side3 ?side4 A7.out).mono ?_);(case side1=>exact zc HR434_0.out);(case side2=>exact HC434_0.out);(case side3=>exact zc HR435_0.out);(case side4=>exact HC435_0.out);rintro e w' ⟨rfl,⟨nd,rfl⟩⟩;(try first|exact ⟨rfl,_,World.drewN_drewN _ _ _⟩|exact ⟨rfl,_,Eq.trans (World.drewN_drewN _ _ _) (congrArg (World.drewN _) (Nat.add_assoc _ _ _))⟩)));(repeat (go_quiet (first|(go_at_call 22;(with_reducible refine (laws_eqIntS.calls k1 _ _ (rd_L1 l0 x5_1) _ _ (rd_L1 l1 x5_1) true _ ?side1 ?side2 ?side3 ?side4 A7.out).mono ?_);(case side1=>exact zc HR434_0.out);(case side2=>exact HC434_0.out);(case side3=>exact zc HR435_0.out);(case side4=>exact HC435_0.out);rintro e w' ⟨rfl,⟨nd,rfl⟩⟩;(try first|exact ⟨rfl,_,World.drewN_drewN _ _ _⟩|exact ⟨rfl,_,Eq.trans (World.drewN_drewN _ _ _) (congrArg (World.drewN _) (Nat.add_assoc _ _ _))⟩)));try go_wp2_with (first|(go_at_call 22;(with_reducible refine (laws_eqIntS.calls k1 _ _ (rd_L1 l0 x5_1) _ _ (rd_L1 l1 x5_1) true _ ?side1 ?side2 ?side3 ?side4 A7.out).mono ?_);(case side1=>exact zc HR434_0.out);(case side2=>exact HC434_0.out);(case side3=>exact zc HR435_0.out);(case side4=>exact HC435_0.out);rintro e w' ⟨rfl,⟨nd,rfl⟩⟩;(try first|exact ⟨rfl,_,World.drewN_drewN _ _ _⟩|exact ⟨rfl,_,Eq.trans (World.drewN_drewN _ _ _) (congrArg (World.drewN _) (Nat.add_assoc _ _ _))⟩)))));go_roundg k1;(case measure=>have:=HK1.out;omega);(case rel=>exact ⟨(wrap64 (x5_1+1)),zt,H',⟨by have:=HK1.out;omega⟩,by repeat (first|exact Drawn0.refl _|apply Drawn0.step)⟩)
     ·replace c8:=Bool.eq_false_iff.mpr c8;subst c8;replace H:=ifF H;obtain rfl:=Option.some.inj H;have p434:0≤(x5_1:Int):=zd;have q434:x5_1<(l0.length:Int):=zd;obtain ⟨ad434,A434_0,c434_0,e434,hx434_0,hl434_0,hi434_0⟩:=at_L1 HR0.out x5_1 p434 q434;cases e434;have HR434_0:=aM hi434_0;have HC434_0:=aM hl434_0;clear hi434_0 hl434_0;replace p434:=eq_true p434;replace q434:=eq_true q434;have p435:0≤(x5_1:Int):=zd;have q435:x5_1<(l1.length:Int):=zd;obtain ⟨ad435,A435_0,c435_0,e435,hx435_0,hl435_0,hi435_0⟩:=at_L1 HR1.out x5_1 p435 q435;cases e435;have HR435_0:=aM hi435_0;have HC435_0:=aM hl435_0;clear hi435_0 hl435_0;replace p435:=eq_true p435;replace q435:=eq_true q435;go_wp2_with (first|(go_at_call 22;(with_reducible refine (laws_eqIntS.calls k1 _ _ (rd_L1 l0 x5_1) _ _ (rd_L1 l1 x5_1) false _ ?side1 ?side2 ?side3 ?side4 A7.out).mono ?_);(case side1=>exact zc HR434_0.out);(case side2=>exact HC434_0.out);(case side3=>exact zc HR435_0.out);(case side4=>exact HC435_0.out);rintro e w' ⟨rfl,⟨nd,rfl⟩⟩;(try first|exact ⟨rfl,_,World.drewN_drewN _ _ _⟩|exact ⟨rfl,_,Eq.trans (World.drewN_drewN _ _ _) (congrArg (World.drewN _) (Nat.add_assoc _ _ _))⟩)));(repeat (go_quiet (first|(go_at_call 22;(with_reducible refine (laws_eqIntS.calls k1 _ _ (rd_L1 l0 x5_1) _ _ (rd_L1 l1 x5_1) false _ ?side1 ?side2 ?side3 ?side4 A7.out).mono ?_);(case side1=>exact zc HR434_0.out);(case side2=>exact HC434_0.out);(case side3=>exact zc HR435_0.out);(case side4=>exact HC435_0.out);rintro e w' ⟨rfl,⟨nd,rfl⟩⟩;(try first|exact ⟨rfl,_,World.drewN_drewN _ _ _⟩|exact ⟨rfl,_,Eq.trans (World.drewN_drewN _ _ _) (congrArg (World.drewN _) (Nat.add_assoc _ _ _))⟩)));try go_wp2_with (first|(go_at_call 22;(with_reducible refine (laws_eqIntS.calls k1 _ _ (rd_L1 l0 x5_1) _ _ (rd_L1 l1 x5_1) false _ ?side1 ?side2 ?side3 ?side4 A7.out).mono ?_);(case side1=>exact zc HR434_0.out);(case side2=>exact HC434_0.out);(case side3=>exact zc HR435_0.out);(case side4=>exact HC435_0.out);rintro e w' ⟨rfl,⟨nd,rfl⟩⟩;(try first|exact ⟨rfl,_,World.drewN_drewN _ _ _⟩|exact ⟨rfl,_,Eq.trans (World.drewN_drewN _ _ _) (congrArg (World.drewN _) (Nat.add_assoc _ _ _))⟩)))));go_ret;exact ⟨zt,zz⟩
    ·rw [if_neg c4] at H;have c4b0:decide (x5_1<(l0.length:Int))=false:=decide_eq_false c4;clear c4;obtain rfl:=Option.some.inj H;go_wp2;(repeat (go_quiet (fail);try go_wp2));go_ret;exact ⟨zt,zz⟩
 ·rw [if_neg c3] at H;have c3b0:((l0.length:Int) == (l1.length:Int))=false:=beq_eq_false_iff_ne.mpr c3;have c3b1:((l0.length:Int) != (l1.length:Int))=true:=bne_iff_ne.mpr c3;have c3b2:(l0.length == l1.length)=false:=(by first|simpa using c3|(simp at c3 ⊢;omega));obtain rfl:=Option.some.inj H;go_enter Try.func21,Try.ntmps21;go_wp2;(repeat (go_quiet (fail);try go_wp2));go_ret;exact ⟨zt,zz⟩
def laws_FnExactValueOf.j0 : Nat → List (List Int) → List Int → List Int → List (List Int) → List Int → List Int → Bool → Option (Bool)
 | 0, _, _, _, _, _, _, _ => none
 | k + 1, x0, x1, x2, x10, x11, x12, x57 => if x57 = true then (some false) else ((laws_toIntSS.f k x0).bind fun t465 => ((laws_eqIntSS.f k x10 t465).bind fun t468 => (if t468 = true then ((laws_toIntS.f k x1).bind fun t469 => ((laws_eqIntS.f k x11 t469).bind fun t472 => (if t472 = true then ((laws_toIntS.f k x2).bind fun t473 => ((laws_eqIntS.f k x12 t473).bind fun t476 => (if t476 = true then (some true) else (some false)))) else (some false)))) else (some false))))
def laws_FnExactValueOf.f (k : Nat) (l0 : List (List Int)) (l1 : List Int) (l2 : List Int) : Option (Bool) := if (l1.length : Int) > 1048576 then (some true) else (if (l2.length : Int) > 1048576 then (some true) else ((laws_szIntSS.f k l0 1048576).bind fun t437 => (if t437 < 0 then (some true) else ((laws_toIntSS.f k l0).bind fun t438 => ((laws_toIntS.f k l1).bind fun t441 => ((laws_toIntS.f k l2).bind fun t444 => ((spec_ValueOf.f k t438 t441 t444).bind fun bt447 => ((laws_toIntSS.f k l0).bind fun t451 => ((laws_toIntS.f k l1).bind fun t454 => ((laws_toIntS.f k l2).bind fun t457 => ((impl_ValueOf.f k t451 t454 t457).bind fun bt460 => ((laws_eqRatio.f bt460.1 bt460.2.1 bt447.1 bt447.2.1).bind fun t464 => (if t464 = true then (laws_FnExactValueOf.j0 k l0 l1 l2 t451 t454 t457 (bt460.2.2 != bt447.2.2)) else (laws_FnExactValueOf.j0 k l0 l1 l2 t451 t454 t457 true))))))))))))))
set_option maxHeartbeats 8000000 in
set_option maxRecDepth 100000 in
theorem laws_FnExactValueOf.calls (k : Nat) (A0 : Option Addr) (c0 : Nat) (l0 : List (List Int)) (A1 : Option Addr) (c1 : Nat) (l1 : List Int) (A2 : Option Addr) (c2 : Nat) (l2 : List Int) (r : Bool) (w : World) (hr0 : Kd.C (Kd.slice 3 (Kd.int .i64)) w A0 l0.length l0) (hc0 : l0.length ≤ c0) (hr1 : Kd.C (Kd.int .i64) w A1 l1.length l1) (hc1 : l1.length ≤ c1) (hr2 : Kd.C (Kd.int .i64) w A2 l2.length l2) (hc2 : l2.length ≤ c2) (h : laws_FnExactValueOf.f k l0 l1 l2 = some r) :
 Calls Try.prog 3 #[.slice A0 l0.length c0, .slice A1 l1.length c1, .slice A2 l2.length c2] w fun e w' => e = .returned (.bool r) ∧ Below w.heap.size w w' := by
 have hu26:=Try.underlying26;have HR0:=aM hr0;have HC0:=aM hc0;clear hr0 hc0;have HR1:=aM hr1;have HC1:=aM hc1;clear hr1 hc1;have HR2:=aM hr2;have HC2:=aM hc2;clear hr2 hc2;have HB:=aM (Below.refl w.heap.size w);have H:(if (l1.length:Int) > 1048576 then (some true) else (if (l2.length:Int) > 1048576 then (some true) else ((laws_szIntSS.f k l0 1048576).bind fun t437=>(if t437<0 then (some true) else ((laws_toIntSS.f k l0).bind fun t438=>((laws_toIntS.f k l1).bind fun t441=>((laws_toIntS.f k l2).bind fun t444=>((spec_ValueOf.f k t438 t441 t444).bind fun bt447=>((laws_toIntSS.f k l0).bind fun t451=>((laws_toIntS.f k l1).bind fun t454=>((laws_toIntS.f k l2).bind fun t457=>((impl_ValueOf.f k t451 t454 t457).bind fun bt460=>((laws_eqRatio.f bt460.1 bt460.2.1 bt447.1 bt447.2.1).bind fun t464=>(if t464=true then (laws_FnExactValueOf.j0 k l0 l1 l2 t451 t454 t457 (bt460.2.2 != bt447.2.2)) else (laws_FnExactValueOf.j0 k l0 l1 l2 t451 t454 t457 true)))))))))))))))=some r:=h;clear h;by_cases c4:(l1.length:Int) > 1048576
 ·rw [if_pos c4] at H;have c4b0:decide (1048576<(l1.length:Int))=true:=decide_eq_true c4;have c4b1:decide (1048576<l1.length)=true:=decide_eq_true (by omega);clear c4;obtain rfl:=Option.some.inj H;go_enter Try.func3,Try.ntmps3;go_wp2;go_ret;exact ⟨by first|rfl|(simp [errW_none,errW_some]<;>rfl)|(simp [*,errW_none,errW_some]<;>rfl),zb HB.out⟩
 ·rw [if_neg c4] at H;have c4b0:decide (1048576<(l1.length:Int))=false:=decide_eq_false c4;have c4b1:decide (1048576<l1.length)=false:=decide_eq_false (by omega);clear c4;by_cases c5:(l2.length:Int) > 1048576
  ·rw [if_pos c5] at H;have c5b0:decide (1048576<(l2.length:Int))=true:=decide_eq_true c5;have c5b1:decide (1048576<l2.length)=true:=decide_eq_true (by omega);clear c5;obtain rfl:=Option.some.inj H;go_enter Try.func3,Try.ntmps3;go_wp2;go_ret;exact ⟨by first|rfl|(simp [errW_none,errW_some]<;>rfl)|(simp [*,errW_none,errW_some]<;>rfl),zb HB.out⟩
  ·rw [if_neg c5] at H;have c5b0:decide (1048576<(l2.length:Int))=false:=decide_eq_false c5;have c5b1:decide (1048576<l2.length)=false:=decide_eq_false (by omega);clear c5;obtain ⟨t437,A6,H⟩:=bz H;by_cases c7:t437<0
   ·rw [if_pos c7] at H;have c7b0:decide (t437<0)=true:=decide_eq_true c7;clear c7;obtain rfl:=Option.some.inj H;go_enter Try.func3,Try.ntmps3;go_wp2_with (first|((with_reducible refine gate_callee (f:=15) rfl ?_);refine gm (some 23) Try.func15 #[.slice A0 l0.length c0,.int .i64 1048576] ?_;(with_reducible refine (laws_szIntSS.calls k _ _ l0 1048576 t437 _ ?side1 ?side2 A6.out).mono ?_);(case side1=>exact zc HR0.out);(case side2=>exact HC0.out);rintro e w' ⟨rfl,⟨nd,rfl⟩⟩;refine ⟨_,rfl,?_⟩));go_ret;exact ⟨by first|rfl|(simp [errW_none,errW_some]<;>rfl)|(simp [*,errW_none,errW_some]<;>rfl),zb HB.out⟩
   ·rw [if_neg c7] at H;have c7b0:decide (t437<0)=false:=decide_eq_false c7;clear c7;obtain ⟨t438,A8,H⟩:=bz H;obtain ⟨t441,A9,H⟩:=bz H;obtain ⟨t444,A10,H⟩:=bz H;obtain ⟨⟨t447,t448,t449⟩,A11,H⟩:=bz H;dsimp only at H;obtain ⟨t451,A12,H⟩:=bz H;obtain ⟨t454,A13,H⟩:=bz H;obtain ⟨t457,A14,H⟩:=bz H;obtain ⟨⟨t460,t461,t462⟩,A15,H⟩:=bz H;dsimp only at H;have HC16:=aM H;clear H;go_enter Try.func3,Try.ntmps3;go_upto_region 14 with (first|((with_reducible refine gate_callee (f:=15) rfl ?_);refine gm (some 23) Try.func15 #[.slice A0 l0.length c0,.int .i64 1048576] ?_;(with_reducible refine (laws_szIntSS.calls k _ _ l0 1048576 t437 _ ?side1 ?side2 A6.out).mono ?_);(case side1=>exact zc HR0.out);(case side2=>exact HC0.out);rintro e w' ⟨rfl,⟨nd,rfl⟩⟩;refine ⟨_,rfl,?_⟩)|((with_reducible refine gate_callee (f:=17) rfl ?_);refine gm (some 28) Try.func17 #[.slice A0 l0.length c0] ?_;(with_reducible refine (laws_toIntSS.calls k _ _ l0 t438 _ ?side1 ?side2 A8.out).mono ?_);(case side1=>exact zc HR0.out);(case side2=>exact HC0.out);rintro e w17 ⟨v439,rfl,ho0,hb⟩;refine ⟨_,rfl,?_⟩;have HO440:=aM (Kd.S_lower ho0 (below_size (zb HB.out)));replace HB:=aM (below_step (zb HB.out) hb);(try clear hb);(try clear hb2);(try clear hk);(try clear hi);(try clear ho0))|((with_reducible refine gate_callee (f:=18) rfl ?_);refine gm (some 30) Try.func18 #[.slice A1 l1.length c1] ?_;(with_reducible refine (laws_toIntS.calls k _ _ l1 t441 _ ?side1 ?side2 A9.out).mono ?_);(case side1=>exact zc (Kd.C_below HR1.out HB.out));(case side2=>exact HC1.out);rintro e w18 ⟨v442,rfl,ho0,hb⟩;refine ⟨_,rfl,?_⟩;replace HO440:=aM (Kd.S_elder' (by (with_reducible repeat (first|apply Kd.S_alloc|apply Kd.S_drewN|apply Kd.S_drew));exact HO440.out) (Kd.R_base ho0) hb);have HO443:=aM (Kd.R_lower ho0 (below_size (zb HB.out)));replace HB:=aM (below_step (zb HB.out) hb);(try clear hb);(try clear hb2);(try clear hk);(try clear hi);(try clear ho0))|((with_reducible refine gate_callee (f:=18) rfl ?_);refine gm (some 32) Try.func18 #[.slice A2 l2.length c2] ?_;(with_reducible refine (laws_toIntS.calls k _ _ l2 t444 _ ?side1 ?side2 A10.out).mono ?_);(case side1=>exact zc (Kd.C_below HR2.out HB.out));(case side2=>exact HC2.out);rintro e w19 ⟨v445,rfl,ho0,hb⟩;refine ⟨_,rfl,?_⟩;replace HO440:=aM (Kd.S_elder' (by (with_reducible repeat (first|apply Kd.S_alloc|apply Kd.S_drewN|apply Kd.S_drew));exact HO440.out) (Kd.R_base ho0) hb);have HO446:=aM (Kd.R_lower (Kd.R_new' ho0 (Kd.R_lt (zr HO443.out))) (below_size (zb HB.out)));replace HO443:=aM (Kd.R_elder' (zr HO443.out) (Kd.R_base ho0) hb);replace HB:=aM (below_step (zb HB.out) hb);(try clear hb);(try clear hb2);(try clear hk);(try clear hi);(try clear ho0);obtain ⟨Ao20,co20,eo20⟩:=Kd.S_slice HO440.out;subst eo20;obtain ⟨Ao21,co21,eo21⟩:=Kd.R_slice HO443.out;subst eo21;obtain ⟨Ao22,co22,eo22⟩:=Kd.R_slice HO446.out;subst eo22)|((with_reducible refine gate_callee (f:=16) rfl ?_);refine gm (some 33) Try.func16 #[.slice Ao20 t438.length co20,.slice Ao21 t441.length co21,.slice Ao22 t444.length co22] ?_;(with_reducible refine (spec_ValueOf.calls k _ _ t438 _ _ t441 _ _ t444 t447 t448 t449 _ ?side1 ?side2 ?side3 ?side4 ?side5 ?side6 A11.out).mono ?_);(case side1=>exact zc (Kd.S_reads' HO440.out).2.2);(case side2=>exact (Kd.S_reads' HO440.out).2.1);(case side3=>exact zc (Kd.R_reads' HO443.out).2.2);(case side4=>exact (Kd.R_reads' HO443.out).2.1);(case side5=>exact zc (Kd.R_reads' HO446.out).2.2);(case side6=>exact (Kd.R_reads' HO446.out).2.1);rintro e w23 ⟨rfl,hb⟩;refine ⟨_,rfl,?_⟩;replace HO440:=aM (Kd.S_below (by (with_reducible repeat (first|apply Kd.S_alloc|apply Kd.S_drewN|apply Kd.S_drew));exact HO440.out) hb);replace HO443:=aM (Kd.R_below (zr HO443.out) hb);replace HO446:=aM (Kd.R_below (zr HO446.out) hb);replace HB:=aM (below_step (zb HB.out) hb);(try clear hb);(try clear hb2);(try clear hk);(try clear hi))|((with_reducible refine gate_dst (N:=8) rfl ?_);refine box_event ?hg (N:=8) ?hd (cs:=#[.int .i64 0,.int .i64 0]) (t:=26) ?hr ?_;(case hd=>rfl);(case hg=>rfl);(case hr=>first|(go_simp;done)|(go_simp;rfl));intro gb450 hg w24 hbox hb;replace HO440:=aM (Kd.S_below (by (with_reducible repeat (first|apply Kd.S_alloc|apply Kd.S_drewN|apply Kd.S_drew));exact HO440.out) hb);replace HO443:=aM (Kd.R_below (zr HO443.out) hb);replace HO446:=aM (Kd.R_below (zr HO446.out) hb);have BK450:=aM (hbox);have GW450:=aM (zg hg (zb HB.out));have GE450:=aM (zg hg (zb HB.out));replace HB:=aM (below_step (zb HB.out) hb);clear hb hbox hg;have hcz25_0:w24.cell? ⟨gb450,0,none⟩=some (.int .i64 0):=(blk_cell BK450.out 0).trans rfl;have hcz25_1:w24.cell? ⟨gb450,1,none⟩=some (.int .i64 0):=(blk_cell BK450.out 1).trans rfl;have hfz25_0:=blk_frozen BK450.out 0;have hfz25_1:=blk_frozen BK450.out 1)|((with_reducible refine gate_callee (f:=17) rfl ?_);refine gm (some 37) Try.func17 #[.slice A0 l0.length c0] ?_;(with_reducible refine (laws_toIntSS.calls k _ _ l0 t451 _ ?side1 ?side2 A12.out).mono ?_);(case side1=>exact Kd.C_below HR0.out (zs HB.out));(case side2=>exact HC0.out);rintro e w26 ⟨v452,rfl,ho0,hb⟩;refine ⟨_,rfl,?_⟩;have HO453:=aM (Kd.S_lower (Kd.S_new' (Kd.S_new' (Kd.S_new' ho0 (Kd.S_lt (by (with_reducible repeat (first|apply Kd.S_alloc|apply Kd.S_drewN|apply Kd.S_drew));exact (Kd.S_mono (Kd.S_far (p:=⟨gb450,1,none⟩) (Kd.S_far (p:=⟨gb450,0,none⟩) (Kd.S_types HO440.out BK450.out (by decide)) (fun _ hk=>hk.2) (.int .i64 t447)) (fun _ hk=>hk.2) (.int .i64 t448)) (fun _ h_=>h_.1))))) (Kd.R_lt (by (with_reducible repeat (first|apply Kd.R_alloc|apply Kd.R_drewN|apply Kd.R_drew));exact (Kd.R_mono (Kd.R_far (p:=⟨gb450,1,none⟩) (Kd.R_far (p:=⟨gb450,0,none⟩) (Kd.R_types HO443.out BK450.out (by decide)) (fun _ hk=>hk.2) (.int .i64 t447)) (fun _ hk=>hk.2) (.int .i64 t448)) (fun _ h_=>h_.1))))) (Kd.R_lt (by (with_reducible repeat (first|apply Kd.R_alloc|apply Kd.R_drewN|apply Kd.R_drew));exact (Kd.R_mono (Kd.R_far (p:=⟨gb450,1,none⟩) (Kd.R_far (p:=⟨gb450,0,none⟩) (Kd.R_types HO446.out BK450.out (by decide)) (fun _ hk=>hk.2) (.int .i64 t447)) (fun _ hk=>hk.2) (.int .i64 t448)) (fun _ h_=>h_.1))))) (below_size (zs HB.out)));replace HO440:=aM (Kd.S_elder' (by (with_reducible repeat (first|apply Kd.S_alloc|apply Kd.S_drewN|apply Kd.S_drew));exact (Kd.S_mono (Kd.S_far (p:=⟨gb450,1,none⟩) (Kd.S_far (p:=⟨gb450,0,none⟩) (Kd.S_types HO440.out BK450.out (by decide)) (fun _ hk=>hk.2) (.int .i64 t447)) (fun _ hk=>hk.2) (.int .i64 t448)) (fun _ h_=>h_.1))) (Kd.S_base ho0) hb);replace HO443:=aM (Kd.R_below (by (with_reducible repeat (first|apply Kd.R_alloc|apply Kd.R_drewN|apply Kd.R_drew));exact (Kd.R_mono (Kd.R_far (p:=⟨gb450,1,none⟩) (Kd.R_far (p:=⟨gb450,0,none⟩) (Kd.R_types HO443.out BK450.out (by decide)) (fun _ hk=>hk.2) (.int .i64 t447)) (fun _ hk=>hk.2) (.int .i64 t448)) (fun _ h_=>h_.1))) hb);replace HO446:=aM (Kd.R_below (by (with_reducible repeat (first|apply Kd.R_alloc|apply Kd.R_drewN|apply Kd.R_drew));exact (Kd.R_mono (Kd.R_far (p:=⟨gb450,1,none⟩) (Kd.R_far (p:=⟨gb450,0,none⟩) (Kd.R_types HO446.out BK450.out (by decide)) (fun _ hk=>hk.2) (.int .i64 t447)) (fun _ hk=>hk.2) (.int .i64 t448)) (fun _ h_=>h_.1))) hb);replace BK450:=aM (blk_below (g:=gb450) (o:=.cells #[.int .i64 t447,.int .i64 t448] 26 (0,0)) (by (with_reducible repeat (first|refine blk_drewN ?_ _|refine blk_drew ?_|refine blk_alloc ?_ _));refine blk_put (cs:=#[.int .i64 t447,.int .i64 0]) ?_ 1 _ rfl;(with_reducible repeat (first|refine blk_drewN ?_ _|refine blk_drew ?_|refine blk_alloc ?_ _));refine blk_put (cs:=#[.int .i64 0,.int .i64 0]) ?_ 0 _ rfl;(with_reducible repeat (first|refine blk_drewN ?_ _|refine blk_drew ?_|refine blk_alloc ?_ _));exact BK450.out) hb);replace HB:=aM (below_step (zs HB.out) hb);(try clear hb);(try clear hb2);(try clear hk);(try clear hi);(try clear ho0))|((with_reducible refine gate_callee (f:=18) rfl ?_);refine gm (some 39) Try.func18 #[.slice A1 l1.length c1] ?_;(with_reducible refine (laws_toIntS.calls k _ _ l1 t454 _ ?side1 ?side2 A13.out).mono ?_);(case side1=>exact zc (Kd.C_below HR1.out HB.out));(case side2=>exact HC1.out);rintro e w27 ⟨v455,rfl,ho0,hb⟩;refine ⟨_,rfl,?_⟩;replace HO440:=aM (Kd.S_elder' (by (with_reducible repeat (first|apply Kd.S_alloc|apply Kd.S_drewN|apply Kd.S_drew));exact HO440.out) (Kd.R_base ho0) hb);replace HO453:=aM (Kd.S_elder' (by (with_reducible repeat (first|apply Kd.S_alloc|apply Kd.S_drewN|apply Kd.S_drew));exact HO453.out) (Kd.R_base ho0) hb);have HO456:=aM (Kd.R_lower (Kd.R_new' (Kd.R_new' ho0 (Kd.R_lt (zr HO443.out))) (Kd.R_lt (zr HO446.out))) (below_size (zs HB.out)));replace HO443:=aM (Kd.R_elder' (zr HO443.out) (Kd.R_base ho0) hb);replace HO446:=aM (Kd.R_elder' (zr HO446.out) (Kd.R_base ho0) hb);replace BK450:=aM (blk_below (g:=gb450) (o:=.cells #[.int .i64 t447,.int .i64 t448] 26 (0,0)) (zk BK450.out) hb);replace HB:=aM (below_step (zs HB.out) hb);(try clear hb);(try clear hb2);(try clear hk);(try clear hi);(try clear ho0))|((with_reducible refine gate_callee (f:=18) rfl ?_);refine gm (some 41) Try.func18 #[.slice A2 l2.length c2] ?_;(with_reducible refine (laws_toIntS.calls k _ _ l2 t457 _ ?side1 ?side2 A14.out).mono ?_);(case side1=>exact zc (Kd.C_below HR2.out HB.out));(case side2=>exact HC2.out);rintro e w28 ⟨v458,rfl,ho0,hb⟩;refine ⟨_,rfl,?_⟩;replace HO440:=aM (Kd.S_elder' (by (with_reducible repeat (first|apply Kd.S_alloc|apply Kd.S_drewN|apply Kd.S_drew));exact HO440.out) (Kd.R_base ho0) hb);replace HO453:=aM (Kd.S_elder' (by (with_reducible repeat (first|apply Kd.S_alloc|apply Kd.S_drewN|apply Kd.S_drew));exact HO453.out) (Kd.R_base ho0) hb);have HO459:=aM (Kd.R_lower (Kd.R_new' (Kd.R_new' (Kd.R_new' ho0 (Kd.R_lt (zr HO443.out))) (Kd.R_lt (zr HO446.out))) (Kd.R_lt (zr HO456.out))) (below_size (zs HB.out)));replace HO443:=aM (Kd.R_elder' (zr HO443.out) (Kd.R_base ho0) hb);replace HO446:=aM (Kd.R_elder' (zr HO446.out) (Kd.R_base ho0) hb);replace HO456:=aM (Kd.R_elder' (zr HO456.out) (Kd.R_base ho0) hb);replace BK450:=aM (blk_below (g:=gb450) (o:=.cells #[.int .i64 t447,.int .i64 t448] 26 (0,0)) (zk BK450.out) hb);replace HB:=aM (below_step (zs HB.out) hb);(try clear hb);(try clear hb2);(try clear hk);(try clear hi);(try clear ho0);obtain ⟨Ao29,co29,eo29⟩:=Kd.S_slice HO453.out;subst eo29;obtain ⟨Ao30,co30,eo30⟩:=Kd.R_slice HO456.out;subst eo30;obtain ⟨Ao31,co31,eo31⟩:=Kd.R_slice HO459.out;subst eo31)|((with_reducible refine gate_callee (f:=19) rfl ?_);refine gm (some 46) Try.func19 #[.slice Ao29 t451.length co29,.slice Ao30 t454.length co30,.slice Ao31 t457.length co31] ?_;(with_reducible refine (impl_ValueOf.calls k _ _ t451 _ _ t454 _ _ t457 t460 t461 t462 _ ?side1 ?side2 ?side3 ?side4 ?side5 ?side6 A15.out).mono ?_);(case side1=>exact zc (Kd.S_reads' HO453.out).2.2);(case side2=>exact (Kd.S_reads' HO453.out).2.1);(case side3=>exact zc (Kd.R_reads' HO456.out).2.2);(case side4=>exact (Kd.R_reads' HO456.out).2.1);(case side5=>exact zc (Kd.R_reads' HO459.out).2.2);(case side6=>exact (Kd.R_reads' HO459.out).2.1);rintro e w32 ⟨rfl,hb⟩;refine ⟨_,rfl,?_⟩;replace HO440:=aM (Kd.S_below (by (with_reducible repeat (first|apply Kd.S_alloc|apply Kd.S_drewN|apply Kd.S_drew));exact HO440.out) hb);replace HO443:=aM (Kd.R_below (zr HO443.out) hb);replace HO446:=aM (Kd.R_below (zr HO446.out) hb);replace HO453:=aM (Kd.S_below (by (with_reducible repeat (first|apply Kd.S_alloc|apply Kd.S_drewN|apply Kd.S_drew));exact HO453.out) hb);replace HO456:=aM (Kd.R_below (zr HO456.out) hb);replace HO459:=aM (Kd.R_below (zr HO459.out) hb);replace BK450:=aM (blk_below (g:=gb450) (o:=.cells #[.int .i64 t447,.int .i64 t448] 26 (0,0)) (zk BK450.out) hb);replace HB:=aM (below_step (zs HB.out) hb);(try clear hb);(try clear hb2);(try clear hk);(try clear hi))|((with_reducible refine gate_dst (N:=13) rfl ?_);refine box_event ?hg (N:=13) ?hd (cs:=#[.int .i64 0,.int .i64 0]) (t:=26) ?hr ?_;(case hd=>rfl);(case hg=>rfl);(case hr=>first|(go_simp;done)|(go_simp;rfl));intro gb463 hg w33 hbox hb;replace HO440:=aM (Kd.S_below (by (with_reducible repeat (first|apply Kd.S_alloc|apply Kd.S_drewN|apply Kd.S_drew));exact HO440.out) hb);replace HO443:=aM (Kd.R_below (zr HO443.out) hb);replace HO446:=aM (Kd.R_below (zr HO446.out) hb);replace HO453:=aM (Kd.S_below (by (with_reducible repeat (first|apply Kd.S_alloc|apply Kd.S_drewN|apply Kd.S_drew));exact HO453.out) hb);replace HO456:=aM (Kd.R_below (zr HO456.out) hb);replace HO459:=aM (Kd.R_below (zr HO459.out) hb);have BK463:=aM (hbox);have GW463:=aM (zg hg (zs HB.out));have GE463:=aM (zg hg (zs HB.out));replace HB:=aM (below_step (zs HB.out) hb);have NB450_463:=aM (zl hg (zk BK450.out));have NB463_450:=aM (zm hg (zk BK450.out));replace BK450:=aM (blk_below (g:=gb450) (o:=.cells #[.int .i64 t447,.int .i64 t448] 26 (0,0)) (zk BK450.out) hb);clear hb hbox hg;have hnb34:=NB463_450.out;have hnc34:=NB450_463.out;have hcz35_0:w33.cell? ⟨gb463,0,none⟩=some (.int .i64 0):=(blk_cell BK463.out 0).trans rfl;have hcz35_1:w33.cell? ⟨gb463,1,none⟩=some (.int .i64 0):=(blk_cell BK463.out 1).trans rfl;have hfz35_0:=blk_frozen BK463.out 0;have hfz35_1:=blk_frozen BK463.out 1))
    (try simp only [Act.put,qa,qz,qs]);go_cut [57] (fun v57 wc=>∃(kq:Nat) (x57_15:Bool),v57 = .bool x57_15∧Aside0 (laws_FnExactValueOf.j0 kq l0 l1 l2 t451 t454 t457 x57_15=some r)∧Aside0 (kq≤k)∧Aside0 (Kd.S (Kd.slice 3 (Kd.int .i64)) 23 wc w.heap.size (fun k_=>some k_≠((.slice Ao30 t454.length co30):Value).ownBlock∧some k_≠((.slice Ao31 t457.length co31):Value).ownBlock) (.slice Ao29 t451.length co29) t451)∧Aside0 (Kd.R (Kd.int .i64) 3 wc w.heap.size (fun k_=>some k_≠((.slice Ao31 t457.length co31):Value).ownBlock) (.slice Ao30 t454.length co30) t454)∧Aside0 (Kd.R (Kd.int .i64) 3 wc w.heap.size (fun k_=>some k_≠((.slice Ao30 t454.length co30):Value).ownBlock) (.slice Ao31 t457.length co31) t457)∧Aside0 (wc.heap[gb450]?=some (.cells #[.int .i64 t447,.int .i64 t448] 26 (0,0)))∧Aside0 (wc.heap[gb463]?=some (.cells #[.int .i64 t460,.int .i64 t461] 26 (0,0)))∧Aside0 (Below w.heap.size w wc))
    case first=>
     have H:=HC16.out;clear HC16;obtain ⟨t464,A36,H⟩:=bz H;by_cases c37:t464=true
     ·subst c37;replace H:=ifT H;have H':=aM H;clear H;have hnb38:=NB463_450.out;have hnc38:=NB450_463.out;have hcz39_0:w33.cell? ⟨gb463,0,none⟩=some (.int .i64 0):=(blk_cell BK463.out 0).trans rfl;have hcz39_1:w33.cell? ⟨gb463,1,none⟩=some (.int .i64 0):=(blk_cell BK463.out 1).trans rfl;have hfz39_0:=blk_frozen BK463.out 0;have hfz39_1:=blk_frozen BK463.out 1;have hcz40_0:w33.cell? ⟨gb450,0,none⟩=some (.int .i64 t447):=(blk_cell BK450.out 0).trans rfl;have hcz40_1:w33.cell? ⟨gb450,1,none⟩=some (.int .i64 t448):=(blk_cell BK450.out 1).trans rfl;have hfz40_0:=blk_frozen BK450.out 0;have hfz40_1:=blk_frozen BK450.out 1;go_wp2_with (first|((with_reducible refine gate_callee (f:=20) rfl ?_);refine gm (some 51) Try.func20 #[.agg #[.int .i64 t460,.int .i64 t461],.agg #[.int .i64 t447,.int .i64 t448]] ?_;(with_reducible refine (laws_eqRatio.calls t460 t461 t447 t448 true _ A36.out).mono ?_);rintro e w41 ⟨rfl,hb⟩;refine ⟨_,rfl,?_⟩;replace HO440:=aM (Kd.S_below (by (with_reducible repeat (first|apply Kd.S_alloc|apply Kd.S_drewN|apply Kd.S_drew));exact (Kd.S_mono (Kd.S_far (p:=⟨gb463,1,none⟩) (Kd.S_far (p:=⟨gb463,0,none⟩) (Kd.S_types HO440.out BK463.out (by decide)) (fun _ hk=>hk.2) (.int .i64 t460)) (fun _ hk=>hk.2) (.int .i64 t461)) (fun _ h_=>h_.1))) hb);replace HO443:=aM (Kd.R_below (by (with_reducible repeat (first|apply Kd.R_alloc|apply Kd.R_drewN|apply Kd.R_drew));exact (Kd.R_mono (Kd.R_far (p:=⟨gb463,1,none⟩) (Kd.R_far (p:=⟨gb463,0,none⟩) (Kd.R_types HO443.out BK463.out (by decide)) (fun _ hk=>hk.2) (.int .i64 t460)) (fun _ hk=>hk.2) (.int .i64 t461)) (fun _ h_=>h_.1))) hb);replace HO446:=aM (Kd.R_below (by (with_reducible repeat (first|apply Kd.R_alloc|apply Kd.R_drewN|apply Kd.R_drew));exact (Kd.R_mono (Kd.R_far (p:=⟨gb463,1,none⟩) (Kd.R_far (p:=⟨gb463,0,none⟩) (Kd.R_types HO446.out BK463.out (by decide)) (fun _ hk=>hk.2) (.int .i64 t460)) (fun _ hk=>hk.2) (.int .i64 t461)) (fun _ h_=>h_.1))) hb);replace HO453:=aM (Kd.S_below (by (with_reducible repeat (first|apply Kd.S_alloc|apply Kd.S_drewN|apply Kd.S_drew));exact (Kd.S_mono (Kd.S_far (p:=⟨gb463,1,none⟩) (Kd.S_far (p:=⟨gb463,0,none⟩) (Kd.S_types HO453.out BK463.out (by decide)) (fun _ hk=>hk.2) (.int .i64 t460)) (fun _ hk=>hk.2) (.int .i64 t461)) (fun _ h_=>h_.1))) hb);replace HO456:=aM (Kd.R_below (by (with_reducible repeat (first|apply Kd.R_alloc|apply Kd.R_drewN|apply Kd.R_drew));exact (Kd.R_mono (Kd.R_far (p:=⟨gb463,1,none⟩) (Kd.R_far (p:=⟨gb463,0,none⟩) (Kd.R_types HO456.out BK463.out (by decide)) (fun _ hk=>hk.2) (.int .i64 t460)) (fun _ hk=>hk.2) (.int .i64 t461)) (fun _ h_=>h_.1))) hb);replace HO459:=aM (Kd.R_below (by (with_reducible repeat (first|apply Kd.R_alloc|apply Kd.R_drewN|apply Kd.R_drew));exact (Kd.R_mono (Kd.R_far (p:=⟨gb463,1,none⟩) (Kd.R_far (p:=⟨gb463,0,none⟩) (Kd.R_types HO459.out BK463.out (by decide)) (fun _ hk=>hk.2) (.int .i64 t460)) (fun _ hk=>hk.2) (.int .i64 t461)) (fun _ h_=>h_.1))) hb);replace BK450:=aM (blk_below (g:=gb450) (o:=.cells #[.int .i64 t447,.int .i64 t448] 26 (0,0)) (by (with_reducible repeat (first|refine blk_drewN ?_ _|refine blk_drew ?_|refine blk_alloc ?_ _));refine blk_far ?_ NB450_463.out _;(with_reducible repeat (first|refine blk_drewN ?_ _|refine blk_drew ?_|refine blk_alloc ?_ _));refine blk_far ?_ NB450_463.out _;(with_reducible repeat (first|refine blk_drewN ?_ _|refine blk_drew ?_|refine blk_alloc ?_ _));exact BK450.out) hb);replace BK463:=aM (blk_below (g:=gb463) (o:=.cells #[.int .i64 t460,.int .i64 t461] 26 (0,0)) (by (with_reducible repeat (first|refine blk_drewN ?_ _|refine blk_drew ?_|refine blk_alloc ?_ _));refine blk_put (cs:=#[.int .i64 t460,.int .i64 0]) ?_ 1 _ rfl;(with_reducible repeat (first|refine blk_drewN ?_ _|refine blk_drew ?_|refine blk_alloc ?_ _));refine blk_put (cs:=#[.int .i64 0,.int .i64 0]) ?_ 0 _ rfl;(with_reducible repeat (first|refine blk_drewN ?_ _|refine blk_drew ?_|refine blk_alloc ?_ _));exact BK463.out) hb);replace HB:=aM (below_step (zs HB.out) hb);(try clear hb);(try clear hb2);(try clear hk);(try clear hi)));go_meet;(case rel=>exact ⟨_,((t462 != t449)),zt,H',⟨by first|omega|exact Nat.le_refl _⟩,⟨by (with_reducible repeat (first|apply Kd.S_alloc|apply Kd.S_drewN|apply Kd.S_drew));exact Kd.S_mono HO453.out (fun _ hk=>⟨hk.1.2,hk.2⟩)⟩,⟨by (with_reducible repeat (first|apply Kd.R_alloc|apply Kd.R_drewN|apply Kd.R_drew));exact Kd.R_mono HO456.out (fun _ hk=>hk.2)⟩,⟨by (with_reducible repeat (first|apply Kd.R_alloc|apply Kd.R_drewN|apply Kd.R_drew));exact Kd.R_mono HO459.out (fun _ hk=>hk.2)⟩,⟨zk BK450.out⟩,⟨zk BK463.out⟩,⟨zs HB.out⟩⟩)
     ·replace c37:=Bool.eq_false_iff.mpr c37;subst c37;replace H:=ifF H;have H':=aM H;clear H;have hnb42:=NB463_450.out;have hnc42:=NB450_463.out;have hcz43_0:w33.cell? ⟨gb463,0,none⟩=some (.int .i64 0):=(blk_cell BK463.out 0).trans rfl;have hcz43_1:w33.cell? ⟨gb463,1,none⟩=some (.int .i64 0):=(blk_cell BK463.out 1).trans rfl;have hfz43_0:=blk_frozen BK463.out 0;have hfz43_1:=blk_frozen BK463.out 1;have hcz44_0:w33.cell? ⟨gb450,0,none⟩=some (.int .i64 t447):=(blk_cell BK450.out 0).trans rfl;have hcz44_1:w33.cell? ⟨gb450,1,none⟩=some (.int .i64 t448):=(blk_cell BK450.out 1).trans rfl;have hfz44_0:=blk_frozen BK450.out 0;have hfz44_1:=blk_frozen BK450.out 1;go_wp2_with (first|((with_reducible refine gate_callee (f:=20) rfl ?_);refine gm (some 51) Try.func20 #[.agg #[.int .i64 t460,.int .i64 t461],.agg #[.int .i64 t447,.int .i64 t448]] ?_;(with_reducible refine (laws_eqRatio.calls t460 t461 t447 t448 false _ A36.out).mono ?_);rintro e w45 ⟨rfl,hb⟩;refine ⟨_,rfl,?_⟩;replace HO440:=aM (Kd.S_below (by (with_reducible repeat (first|apply Kd.S_alloc|apply Kd.S_drewN|apply Kd.S_drew));exact (Kd.S_mono (Kd.S_far (p:=⟨gb463,1,none⟩) (Kd.S_far (p:=⟨gb463,0,none⟩) (Kd.S_types HO440.out BK463.out (by decide)) (fun _ hk=>hk.2) (.int .i64 t460)) (fun _ hk=>hk.2) (.int .i64 t461)) (fun _ h_=>h_.1))) hb);replace HO443:=aM (Kd.R_below (by (with_reducible repeat (first|apply Kd.R_alloc|apply Kd.R_drewN|apply Kd.R_drew));exact (Kd.R_mono (Kd.R_far (p:=⟨gb463,1,none⟩) (Kd.R_far (p:=⟨gb463,0,none⟩) (Kd.R_types HO443.out BK463.out (by decide)) (fun _ hk=>hk.2) (.int .i64 t460)) (fun _ hk=>hk.2) (.int .i64 t461)) (fun _ h_=>h_.1))) hb);replace HO446:=aM (Kd.R_below (by (with_reducible repeat (first|apply Kd.R_alloc|apply Kd.R_drewN|apply Kd.R_drew));exact (Kd.R_mono (Kd.R_far (p:=⟨gb463,1,none⟩) (Kd.R_far (p:=⟨gb463,0,none⟩) (Kd.R_types HO446.out BK463.out (by decide)) (fun _ hk=>hk.2) (.int .i64 t460)) (fun _ hk=>hk.2) (.int .i64 t461)) (fun _ h_=>h_.1))) hb);replace HO453:=aM (Kd.S_below (by (with_reducible repeat (first|apply Kd.S_alloc|apply Kd.S_drewN|apply Kd.S_drew));exact (Kd.S_mono (Kd.S_far (p:=⟨gb463,1,none⟩) (Kd.S_far (p:=⟨gb463,0,none⟩) (Kd.S_types HO453.out BK463.out (by decide)) (fun _ hk=>hk.2) (.int .i64 t460)) (fun _ hk=>hk.2) (.int .i64 t461)) (fun _ h_=>h_.1))) hb);replace HO456:=aM (Kd.R_below (by (with_reducible repeat (first|apply Kd.R_alloc|apply Kd.R_drewN|apply Kd.R_drew));exact (Kd.R_mono (Kd.R_far (p:=⟨gb463,1,none⟩) (Kd.R_far (p:=⟨gb463,0,none⟩) (Kd.R_types HO456.out BK463.out (by decide)) (fun _ hk=>hk.2) (.int .i64 t460)) (fun _ hk=>hk.2) (.int .i64 t461)) (fun _ h_=>h_.1))) hb);replace HO459:=aM (Kd.R_below (by (with_reducible repeat (first|apply Kd.R_alloc|apply Kd.R_drewN|apply Kd.R_drew));exact (Kd.R_mono (Kd.R_far (p:=⟨gb463,1,none⟩) (Kd.R_far (p:=⟨gb463,0,none⟩) (Kd.R_types HO459.out BK463.out (by decide)) (fun _ hk=>hk.2) (.int .i64 t460)) (fun _ hk=>hk.2) (.int .i64 t461)) (fun _ h_=>h_.1))) hb);replace BK450:=aM (blk_below (g:=gb450) (o:=.cells #[.int .i64 t447,.int .i64 t448] 26 (0,0)) (by (with_reducible repeat (first|refine blk_drewN ?_ _|refine blk_drew ?_|refine blk_alloc ?_ _));refine blk_far ?_ NB450_463.out _;(with_reducible repeat (first|refine blk_drewN ?_ _|refine blk_drew ?_|refine blk_alloc ?_ _));refine blk_far ?_ NB450_463.out _;(with_reducible repeat (first|refine blk_drewN ?_ _|refine blk_drew ?_|refine blk_alloc ?_ _));exact BK450.out) hb);replace BK463:=aM (blk_below (g:=gb463) (o:=.cells #[.int .i64 t460,.int .i64 t461] 26 (0,0)) (by (with_reducible repeat (first|refine blk_drewN ?_ _|refine blk_drew ?_|refine blk_alloc ?_ _));refine blk_put (cs:=#[.int .i64 t460,.int .i64 0]) ?_ 1 _ rfl;(with_reducible repeat (first|refine blk_drewN ?_ _|refine blk_drew ?_|refine blk_alloc ?_ _));refine blk_put (cs:=#[.int .i64 0,.int .i64 0]) ?_ 0 _ rfl;(with_reducible repeat (first|refine blk_drewN ?_ _|refine blk_drew ?_|refine blk_alloc ?_ _));exact BK463.out) hb);replace HB:=aM (below_step (zs HB.out) hb);(try clear hb);(try clear hb2);(try clear hk);(try clear hi)));go_meet;(case rel=>exact ⟨_,(true),zt,H',⟨by first|omega|exact Nat.le_refl _⟩,⟨by (with_reducible repeat (first|apply Kd.S_alloc|apply Kd.S_drewN|apply Kd.S_drew));exact Kd.S_mono HO453.out (fun _ hk=>⟨hk.1.2,hk.2⟩)⟩,⟨by (with_reducible repeat (first|apply Kd.R_alloc|apply Kd.R_drewN|apply Kd.R_drew));exact Kd.R_mono HO456.out (fun _ hk=>hk.2)⟩,⟨by (with_reducible repeat (first|apply Kd.R_alloc|apply Kd.R_drewN|apply Kd.R_drew));exact Kd.R_mono HO459.out (fun _ hk=>hk.2)⟩,⟨zk BK450.out⟩,⟨zk BK463.out⟩,⟨zs HB.out⟩⟩)
    case rest=>
     clear HC16;(try clear c1);(try clear c2);(try clear p2);(try clear c3);(try clear c4);(try clear c4b0);(try clear c4b1);(try clear c5);(try clear c5b0);(try clear c5b1);(try clear c7);(try clear c7b0);(try clear c15);(try clear c16);(try clear c17);(try clear c18);(try clear c19);(try clear c20);(try clear c34);(try clear c37);(try clear c38);(try clear c42);(try clear hcz25_0);(try clear hcz25_1);(try clear hcz35_0);(try clear hcz35_1);(try clear hcz39_0);(try clear hcz39_1);(try clear hcz40_0);(try clear hcz40_1);(try clear hcz43_0);(try clear hcz43_1);(try clear hcz44_0);(try clear hcz44_1);(try clear hfz25_0);(try clear hfz25_1);(try clear hfz35_0);(try clear hfz35_1);(try clear hfz39_0);(try clear hfz39_1);(try clear hfz40_0);(try clear hfz40_1);(try clear hfz43_0);(try clear hfz43_1);(try clear hfz44_0);(try clear hfz44_1);obtain ⟨kq,x57_15,rfl,HA,HJ15,HO_10,HO_11,HO_12,BK450,BK463,HB⟩:=hcut;cases kq with
     | zero=>exact absurd HA.out (by simp [laws_FnExactValueOf.j0])
     | succ kj15=>
      have H:=HA.out;clear HA;simp only [laws_FnExactValueOf.j0] at H;by_cases c46:x57_15=true
      ·subst c46;replace H:=ifT H;obtain rfl:=Option.some.inj H;go_wp2;go_ret;exact ⟨by first|rfl|(simp [errW_none,errW_some]<;>rfl)|(simp [*,errW_none,errW_some]<;>rfl),zs HB.out⟩
      ·replace c46:=Bool.eq_false_iff.mpr c46;subst c46;replace H:=ifF H;obtain ⟨t465,A47,H⟩:=bz H;obtain ⟨t468,A48,H⟩:=bz H;by_cases c49:t468=true
       ·subst c49;replace H:=ifT H;obtain ⟨t469,A50,H⟩:=bz H;obtain ⟨t472,A51,H⟩:=bz H;by_cases c52:t472=true
        ·subst c52;replace H:=ifT H;obtain ⟨t473,A53,H⟩:=bz H;obtain ⟨t476,A54,H⟩:=bz H;by_cases c55:t476=true
         ·subst c55;replace H:=ifT H;obtain rfl:=Option.some.inj H;go_wp2_with (first|((with_reducible refine gate_callee (f:=17) rfl ?_);refine gm (some 60) Try.func17 #[.slice A0 l0.length c0] ?_;(with_reducible refine (laws_toIntSS.calls kj15 _ _ l0 t465 _ ?side1 ?side2 A47.out).mono ?_);(case side1=>exact zc (Kd.C_below HR0.out HB.out));(case side2=>exact HC0.out);rintro e w56 ⟨v466,rfl,ho0,hb⟩;refine ⟨_,rfl,?_⟩;have HO467:=aM (Kd.S_lower (Kd.S_new' (Kd.S_new' (Kd.S_new' ho0 (Kd.S_lt (by (with_reducible repeat (first|apply Kd.S_alloc|apply Kd.S_drewN|apply Kd.S_drew));exact HO_10.out))) (Kd.R_lt (zr HO_11.out))) (Kd.R_lt (zr HO_12.out))) (below_size (zs HB.out)));replace HO_10:=aM (Kd.S_elder' (by (with_reducible repeat (first|apply Kd.S_alloc|apply Kd.S_drewN|apply Kd.S_drew));exact HO_10.out) (Kd.S_base ho0) hb);replace HO_11:=aM (Kd.R_below (zr HO_11.out) hb);replace HO_12:=aM (Kd.R_below (zr HO_12.out) hb);replace BK450:=aM (blk_below (g:=gb450) (o:=.cells #[.int .i64 t447,.int .i64 t448] 26 (0,0)) (zk BK450.out) hb);replace BK463:=aM (blk_below (g:=gb463) (o:=.cells #[.int .i64 t460,.int .i64 t461] 26 (0,0)) (zk BK463.out) hb);replace HB:=aM (below_step (zs HB.out) hb);(try clear hb);(try clear hb2);(try clear hk);(try clear hi);(try clear ho0);obtain ⟨Ao57,co57,eo57⟩:=Kd.S_slice HO467.out;subst eo57)|((with_reducible refine gate_callee (f:=21) rfl ?_);refine gm (some 61) Try.func21 #[.slice Ao29 t451.length co29,.slice Ao57 t465.length co57] ?_;(with_reducible refine (laws_eqIntSS.calls kj15 _ _ t451 _ _ t465 true _ ?side1 ?side2 ?side3 ?side4 A48.out).mono ?_);(case side1=>exact zc (Kd.S_reads' HO_10.out).2.2);(case side2=>exact (Kd.S_reads' HO_10.out).2.1);(case side3=>exact zc (Kd.S_reads' HO467.out).2.2);(case side4=>exact (Kd.S_reads' HO467.out).2.1);rintro e w' ⟨rfl,⟨nd,rfl⟩⟩;refine ⟨_,rfl,?_⟩)|((with_reducible refine gate_callee (f:=18) rfl ?_);refine gm (some 65) Try.func18 #[.slice A1 l1.length c1] ?_;(with_reducible refine (laws_toIntS.calls kj15 _ _ l1 t469 _ ?side1 ?side2 A50.out).mono ?_);(case side1=>repeat (first|exact (Kd.C_below HR1.out (zs HB.out))|(with_reducible refine Kd.C_alloc ?_ _)|(with_reducible refine Kd.C_drewN ?_ _)|(with_reducible refine Kd.C_drew ?_)));(case side2=>exact HC1.out);rintro e w58 ⟨v470,rfl,ho0,hb⟩;refine ⟨_,rfl,?_⟩;replace HO_10:=aM (Kd.S_elder' (by (with_reducible repeat (first|apply Kd.S_alloc|apply Kd.S_drewN|apply Kd.S_drew));exact HO_10.out) (Kd.R_base ho0) hb);replace HO467:=aM (Kd.S_elder' (by (with_reducible repeat (first|apply Kd.S_alloc|apply Kd.S_drewN|apply Kd.S_drew));exact HO467.out) (Kd.R_base ho0) hb);have HO471:=aM (Kd.R_lower (Kd.R_new' (Kd.R_new' ho0 (Kd.R_lt (zr HO_11.out))) (Kd.R_lt (zr HO_12.out))) (below_size (zs HB.out)));replace HO_11:=aM (Kd.R_elder' (zr HO_11.out) (Kd.R_base ho0) hb);replace HO_12:=aM (Kd.R_elder' (zr HO_12.out) (Kd.R_base ho0) hb);replace BK450:=aM (blk_below (g:=gb450) (o:=.cells #[.int .i64 t447,.int .i64 t448] 26 (0,0)) (zk BK450.out) hb);replace BK463:=aM (blk_below (g:=gb463) (o:=.cells #[.int .i64 t460,.int .i64 t461] 26 (0,0)) (zk BK463.out) hb);replace HB:=aM (below_step (zs HB.out) hb);(try clear hb);(try clear hb2);(try clear hk);(try clear hi);(try clear ho0);obtain ⟨Ao59,co59,eo59⟩:=Kd.R_slice HO471.out;subst eo59)|((with_reducible refine gate_callee (f:=22) rfl ?_);refine gm (some 66) Try.func22 #[.slice Ao30 t454.length co30,.slice Ao59 t469.length co59] ?_;(with_reducible refine (laws_eqIntS.calls kj15 _ _ t454 _ _ t469 true _ ?side1 ?side2 ?side3 ?side4 A51.out).mono ?_);(case side1=>exact zc (Kd.R_reads' HO_11.out).2.2);(case side2=>exact (Kd.R_reads' HO_11.out).2.1);(case side3=>exact zc (Kd.R_reads' HO471.out).2.2);(case side4=>exact (Kd.R_reads' HO471.out).2.1);rintro e w' ⟨rfl,⟨nd,rfl⟩⟩;refine ⟨_,rfl,?_⟩)|((with_reducible refine gate_callee (f:=18) rfl ?_);refine gm (some 70) Try.func18 #[.slice A2 l2.length c2] ?_;(with_reducible refine (laws_toIntS.calls kj15 _ _ l2 t473 _ ?side1 ?side2 A53.out).mono ?_);(case side1=>repeat (first|exact (Kd.C_below HR2.out (zs HB.out))|(with_reducible refine Kd.C_alloc ?_ _)|(with_reducible refine Kd.C_drewN ?_ _)|(with_reducible refine Kd.C_drew ?_)));(case side2=>exact HC2.out);rintro e w60 ⟨v474,rfl,ho0,hb⟩;refine ⟨_,rfl,?_⟩;replace HO_10:=aM (Kd.S_elder' (by (with_reducible repeat (first|apply Kd.S_alloc|apply Kd.S_drewN|apply Kd.S_drew));exact HO_10.out) (Kd.R_base ho0) hb);replace HO467:=aM (Kd.S_elder' (by (with_reducible repeat (first|apply Kd.S_alloc|apply Kd.S_drewN|apply Kd.S_drew));exact HO467.out) (Kd.R_base ho0) hb);have HO475:=aM (Kd.R_lower (Kd.R_new' (Kd.R_new' (Kd.R_new' ho0 (Kd.R_lt (zr HO_11.out))) (Kd.R_lt (zr HO_12.out))) (Kd.R_lt (zr HO471.out))) (below_size (zs HB.out)));replace HO_11:=aM (Kd.R_elder' (zr HO_11.out) (Kd.R_base ho0) hb);replace HO_12:=aM (Kd.R_elder' (zr HO_12.out) (Kd.R_base ho0) hb);replace HO471:=aM (Kd.R_elder' (zr HO471.out) (Kd.R_base ho0) hb);replace BK450:=aM (blk_below (g:=gb450) (o:=.cells #[.int .i64 t447,.int .i64 t448] 26 (0,0)) (zk BK450.out) hb);replace BK463:=aM (blk_below (g:=gb463) (o:=.cells #[.int .i64 t460,.int .i64 t461] 26 (0,0)) (zk BK463.out) hb);replace HB:=aM (below_step (zs HB.out) hb);(try clear hb);(try clear hb2);(try clear hk);(try clear hi);(try clear ho0);obtain ⟨Ao61,co61,eo61⟩:=Kd.R_slice HO475.out;subst eo61)|((with_reducible refine gate_callee (f:=22) rfl ?_);refine gm (some 71) Try.func22 #[.slice Ao31 t457.length co31,.slice Ao61 t473.length co61] ?_;(with_reducible refine (laws_eqIntS.calls kj15 _ _ t457 _ _ t473 true _ ?side1 ?side2 ?side3 ?side4 A54.out).mono ?_);(case side1=>exact zc (Kd.R_reads' HO_12.out).2.2);(case side2=>exact (Kd.R_reads' HO_12.out).2.1);(case side3=>exact zc (Kd.R_reads' HO475.out).2.2);(case side4=>exact (Kd.R_reads' HO475.out).2.1);rintro e w' ⟨rfl,⟨nd,rfl⟩⟩;refine ⟨_,rfl,?_⟩));go_ret;exact ⟨by first|rfl|(simp [errW_none,errW_some]<;>rfl)|(simp [*,errW_none,errW_some]<;>rfl),zs HB.out⟩
         ·replace c55:=Bool.eq_false_iff.mpr c55;subst c55;replace H:=ifF H;obtain rfl:=Option.some.inj H;go_wp2_with (first|((with_reducible refine gate_callee (f:=17) rfl ?_);refine gm (some 60) Try.func17 #[.slice A0 l0.length c0] ?_;(with_reducible refine (laws_toIntSS.calls kj15 _ _ l0 t465 _ ?side1 ?side2 A47.out).mono ?_);(case side1=>exact zc (Kd.C_below HR0.out HB.out));(case side2=>exact HC0.out);rintro e w62 ⟨v466,rfl,ho0,hb⟩;refine ⟨_,rfl,?_⟩;have HO467:=aM (Kd.S_lower (Kd.S_new' (Kd.S_new' (Kd.S_new' ho0 (Kd.S_lt (by (with_reducible repeat (first|apply Kd.S_alloc|apply Kd.S_drewN|apply Kd.S_drew));exact HO_10.out))) (Kd.R_lt (zr HO_11.out))) (Kd.R_lt (zr HO_12.out))) (below_size (zs HB.out)));replace HO_10:=aM (Kd.S_elder' (by (with_reducible repeat (first|apply Kd.S_alloc|apply Kd.S_drewN|apply Kd.S_drew));exact HO_10.out) (Kd.S_base ho0) hb);replace HO_11:=aM (Kd.R_below (zr HO_11.out) hb);replace HO_12:=aM (Kd.R_below (zr HO_12.out) hb);replace BK450:=aM (blk_below (g:=gb450) (o:=.cells #[.int .i64 t447,.int .i64 t448] 26 (0,0)) (zk BK450.out) hb);replace BK463:=aM (blk_below (g:=gb463) (o:=.cells #[.int .i64 t460,.int .i64 t461] 26 (0,0)) (zk BK463.out) hb);replace HB:=aM (below_step (zs HB.out) hb);(try clear hb);(try clear hb2);(try clear hk);(try clear hi);(try clear ho0);obtain ⟨Ao63,co63,eo63⟩:=Kd.S_slice HO467.out;subst eo63)|((with_reducible refine gate_callee (f:=21) rfl ?_);refine gm (some 61) Try.func21 #[.slice Ao29 t451.length co29,.slice Ao63 t465.length co63] ?_;(with_reducible refine (laws_eqIntSS.calls kj15 _ _ t451 _ _ t465 true _ ?side1 ?side2 ?side3 ?side4 A48.out).mono ?_);(case side1=>exact zc (Kd.S_reads' HO_10.out).2.2);(case side2=>exact (Kd.S_reads' HO_10.out).2.1);(case side3=>exact zc (Kd.S_reads' HO467.out).2.2);(case side4=>exact (Kd.S_reads' HO467.out).2.1);rintro e w' ⟨rfl,⟨nd,rfl⟩⟩;refine ⟨_,rfl,?_⟩)|((with_reducible refine gate_callee (f:=18) rfl ?_);refine gm (some 65) Try.func18 #[.slice A1 l1.length c1] ?_;(with_reducible refine (laws_toIntS.calls kj15 _ _ l1 t469 _ ?side1 ?side2 A50.out).mono ?_);(case side1=>repeat (first|exact (Kd.C_below HR1.out (zs HB.out))|(with_reducible refine Kd.C_alloc ?_ _)|(with_reducible refine Kd.C_drewN ?_ _)|(with_reducible refine Kd.C_drew ?_)));(case side2=>exact HC1.out);rintro e w64 ⟨v470,rfl,ho0,hb⟩;refine ⟨_,rfl,?_⟩;replace HO_10:=aM (Kd.S_elder' (by (with_reducible repeat (first|apply Kd.S_alloc|apply Kd.S_drewN|apply Kd.S_drew));exact HO_10.out) (Kd.R_base ho0) hb);replace HO467:=aM (Kd.S_elder' (by (with_reducible repeat (first|apply Kd.S_alloc|apply Kd.S_drewN|apply Kd.S_drew));exact HO467.out) (Kd.R_base ho0) hb);have HO471:=aM (Kd.R_lower (Kd.R_new' (Kd.R_new' ho0 (Kd.R_lt (zr HO_11.out))) (Kd.R_lt (zr HO_12.out))) (below_size (zs HB.out)));replace HO_11:=aM (Kd.R_elder' (zr HO_11.out) (Kd.R_base ho0) hb);replace HO_12:=aM (Kd.R_elder' (zr HO_12.out) (Kd.R_base ho0) hb);replace BK450:=aM (blk_below (g:=gb450) (o:=.cells #[.int .i64 t447,.int .i64 t448] 26 (0,0)) (zk BK450.out) hb);replace BK463:=aM (blk_below (g:=gb463) (o:=.cells #[.int .i64 t460,.int .i64 t461] 26 (0,0)) (zk BK463.out) hb);replace HB:=aM (below_step (zs HB.out) hb);(try clear hb);(try clear hb2);(try clear hk);(try clear hi);(try clear ho0);obtain ⟨Ao65,co65,eo65⟩:=Kd.R_slice HO471.out;subst eo65)|((with_reducible refine gate_callee (f:=22) rfl ?_);refine gm (some 66) Try.func22 #[.slice Ao30 t454.length co30,.slice Ao65 t469.length co65] ?_;(with_reducible refine (laws_eqIntS.calls kj15 _ _ t454 _ _ t469 true _ ?side1 ?side2 ?side3 ?side4 A51.out).mono ?_);(case side1=>exact zc (Kd.R_reads' HO_11.out).2.2);(case side2=>exact (Kd.R_reads' HO_11.out).2.1);(case side3=>exact zc (Kd.R_reads' HO471.out).2.2);(case side4=>exact (Kd.R_reads' HO471.out).2.1);rintro e w' ⟨rfl,⟨nd,rfl⟩⟩;refine ⟨_,rfl,?_⟩)|((with_reducible refine gate_callee (f:=18) rfl ?_);refine gm (some 70) Try.func18 #[.slice A2 l2.length c2] ?_;(with_reducible refine (laws_toIntS.calls kj15 _ _ l2 t473 _ ?side1 ?side2 A53.out).mono ?_);(case side1=>repeat (first|exact (Kd.C_below HR2.out (zs HB.out))|(with_reducible refine Kd.C_alloc ?_ _)|(with_reducible refine Kd.C_drewN ?_ _)|(with_reducible refine Kd.C_drew ?_)));(case side2=>exact HC2.out);rintro e w66 ⟨v474,rfl,ho0,hb⟩;refine ⟨_,rfl,?_⟩;replace HO_10:=aM (Kd.S_elder' (by (with_reducible repeat (first|apply Kd.S_alloc|apply Kd.S_drewN|apply Kd.S_drew));exact HO_10.out) (Kd.R_base ho0) hb);replace HO467:=aM (Kd.S_elder' (by (with_reducible repeat (first|apply Kd.S_alloc|apply Kd.S_drewN|apply Kd.S_drew));exact HO467.out) (Kd.R_base ho0) hb);have HO475:=aM (Kd.R_lower (Kd.R_new' (Kd.R_new' (Kd.R_new' ho0 (Kd.R_lt (zr HO_11.out))) (Kd.R_lt (zr HO_12.out))) (Kd.R_lt (zr HO471.out))) (below_size (zs HB.out)));replace HO_11:=aM (Kd.R_elder' (zr HO_11.out) (Kd.R_base ho0) hb);replace HO_12:=aM (Kd.R_elder' (zr HO_12.out) (Kd.R_base ho0) hb);replace HO471:=aM (Kd.R_elder' (zr HO471.out) (Kd.R_base ho0) hb);replace BK450:=aM (blk_below (g:=gb450) (o:=.cells #[.int .i64 t447,.int .i64 t448] 26 (0,0)) (zk BK450.out) hb);replace BK463:=aM (blk_below (g:=gb463) (o:=.cells #[.int .i64 t460,.int .i64 t461] 26 (0,0)) (zk BK463.out) hb);replace HB:=aM (below_step (zs HB.out) hb);(try clear hb);(try clear hb2);(try clear hk);(try clear hi);(try clear ho0);obtain ⟨Ao67,co67,eo67⟩:=Kd.R_slice HO475.out;subst eo67)|((with_reducible refine gate_callee (f:=22) rfl ?_);refine gm (some 71) Try.func22 #[.slice Ao31 t457.length co31,.slice Ao67 t473.length co67] ?_;(with_reducible refine (laws_eqIntS.calls kj15 _ _ t457 _ _ t473 false _ ?side1 ?side2 ?side3 ?side4 A54.out).mono ?_);(case side1=>exact zc (Kd.R_reads' HO_12.out).2.2);(case side2=>exact (Kd.R_reads' HO_12.out).2.1);(case side3=>exact zc (Kd.R_reads' HO475.out).2.2);(case side4=>exact (Kd.R_reads' HO475.out).2.1);rintro e w' ⟨rfl,⟨nd,rfl⟩⟩;refine ⟨_,rfl,?_⟩));go_ret;exact ⟨by first|rfl|(simp [errW_none,errW_some]<;>rfl)|(simp [*,errW_none,errW_some]<;>rfl),zs HB.out⟩
        ·replace c52:=Bool.eq_false_iff.mpr c52;subst c52;replace H:=ifF H;obtain rfl:=Option.some.inj H;go_wp2_with (first|((with_reducible refine gate_callee (f:=17) rfl ?_);refine gm (some 60) Try.func17 #[.slice A0 l0.length c0] ?_;(with_reducible refine (laws_toIntSS.calls kj15 _ _ l0 t465 _ ?side1 ?side2 A47.out).mono ?_);(case side1=>exact zc (Kd.C_below HR0.out HB.out));(case side2=>exact HC0.out);rintro e w68 ⟨v466,rfl,ho0,hb⟩;refine ⟨_,rfl,?_⟩;have HO467:=aM (Kd.S_lower (Kd.S_new' (Kd.S_new' (Kd.S_new' ho0 (Kd.S_lt (by (with_reducible repeat (first|apply Kd.S_alloc|apply Kd.S_drewN|apply Kd.S_drew));exact HO_10.out))) (Kd.R_lt (zr HO_11.out))) (Kd.R_lt (zr HO_12.out))) (below_size (zs HB.out)));replace HO_10:=aM (Kd.S_elder' (by (with_reducible repeat (first|apply Kd.S_alloc|apply Kd.S_drewN|apply Kd.S_drew));exact HO_10.out) (Kd.S_base ho0) hb);replace HO_11:=aM (Kd.R_below (zr HO_11.out) hb);replace HO_12:=aM (Kd.R_below (zr HO_12.out) hb);replace BK450:=aM (blk_below (g:=gb450) (o:=.cells #[.int .i64 t447,.int .i64 t448] 26 (0,0)) (zk BK450.out) hb);replace BK463:=aM (blk_below (g:=gb463) (o:=.cells #[.int .i64 t460,.int .i64 t461] 26 (0,0)) (zk BK463.out) hb);replace HB:=aM (below_step (zs HB.out) hb);(try clear hb);(try clear hb2);(try clear hk);(try clear hi);(try clear ho0);obtain ⟨Ao69,co69,eo69⟩:=Kd.S_slice HO467.out;subst eo69)|((with_reducible refine gate_callee (f:=21) rfl ?_);refine gm (some 61) Try.func21 #[.slice Ao29 t451.length co29,.slice Ao69 t465.length co69] ?_;(with_reducible refine (laws_eqIntSS.calls kj15 _ _ t451 _ _ t465 true _ ?side1 ?side2 ?side3 ?side4 A48.out).mono ?_);(case side1=>exact zc (Kd.S_reads' HO_10.out).2.2);(case side2=>exact (Kd.S_reads' HO_10.out).2.1);(case side3=>exact zc (Kd.S_reads' HO467.out).2.2);(case side4=>exact (Kd.S_reads' HO467.out).2.1);rintro e w' ⟨rfl,⟨nd,rfl⟩⟩;refine ⟨_,rfl,?_⟩)|((with_reducible refine gate_callee (f:=18) rfl ?_);refine gm (some 65) Try.func18 #[.slice A1 l1.length c1] ?_;(with_reducible refine (laws_toIntS.calls kj15 _ _ l1 t469 _ ?side1 ?side2 A50.out).mono ?_);(case side1=>repeat (first|exact (Kd.C_below HR1.out (zs HB.out))|(with_reducible refine Kd.C_alloc ?_ _)|(with_reducible refine Kd.C_drewN ?_ _)|(with_reducible refine Kd.C_drew ?_)));(case side2=>exact HC1.out);rintro e w70 ⟨v470,rfl,ho0,hb⟩;refine ⟨_,rfl,?_⟩;replace HO_10:=aM (Kd.S_elder' (by (with_reducible repeat (first|apply Kd.S_alloc|apply Kd.S_drewN|apply Kd.S_drew));exact HO_10.out) (Kd.R_base ho0) hb);replace HO467:=aM (Kd.S_elder' (by (with_reducible repeat (first|apply Kd.S_alloc|apply Kd.S_drewN|apply Kd.S_drew));exact HO467.out) (Kd.R_base ho0) hb);have HO471:=aM (Kd.R_lower (Kd.R_new' (Kd.R_new' ho0 (Kd.R_lt (zr HO_11.out))) (Kd.R_lt (zr HO_12.out))) (below_size (zs HB.out)));replace HO_11:=aM (Kd.R_elder' (zr HO_11.out) (Kd.R_base ho0) hb);replace HO_12:=aM (Kd.R_elder' (zr HO_12.out) (Kd.R_base ho0) hb);replace BK450:=aM (blk_below (g:=gb450) (o:=.cells #[.int .i64 t447,.int .i64 t448] 26 (0,0)) (zk BK450.out) hb);replace BK463:=aM (blk_below (g:=gb463) (o:=.cells #[.int .i64 t460,.int .i64 t461] 26 (0,0)) (zk BK463.out) hb);replace HB:=aM (below_step (zs HB.out) hb);(try clear hb);(try clear hb2);(try clear hk);(try clear hi);(try clear ho0);obtain ⟨Ao71,co71,eo71⟩:=Kd.R_slice HO471.out;subst eo71)|((with_reducible refine gate_callee (f:=22) rfl ?_);refine gm (some 66) Try.func22 #[.slice Ao30 t454.length co30,.slice Ao71 t469.length co71] ?_;(with_reducible refine (laws_eqIntS.calls kj15 _ _ t454 _ _ t469 false _ ?side1 ?side2 ?side3 ?side4 A51.out).mono ?_);(case side1=>exact zc (Kd.R_reads' HO_11.out).2.2);(case side2=>exact (Kd.R_reads' HO_11.out).2.1);(case side3=>exact zc (Kd.R_reads' HO471.out).2.2);(case side4=>exact (Kd.R_reads' HO471.out).2.1);rintro e w' ⟨rfl,⟨nd,rfl⟩⟩;refine ⟨_,rfl,?_⟩));go_ret;exact ⟨by first|rfl|(simp [errW_none,errW_some]<;>rfl)|(simp [*,errW_none,errW_some]<;>rfl),zs HB.out⟩
       ·replace c49:=Bool.eq_false_iff.mpr c49;subst c49;replace H:=ifF H;obtain rfl:=Option.some.inj H;go_wp2_with (first|((with_reducible refine gate_callee (f:=17) rfl ?_);refine gm (some 60) Try.func17 #[.slice A0 l0.length c0] ?_;(with_reducible refine (laws_toIntSS.calls kj15 _ _ l0 t465 _ ?side1 ?side2 A47.out).mono ?_);(case side1=>exact zc (Kd.C_below HR0.out HB.out));(case side2=>exact HC0.out);rintro e w72 ⟨v466,rfl,ho0,hb⟩;refine ⟨_,rfl,?_⟩;have HO467:=aM (Kd.S_lower (Kd.S_new' (Kd.S_new' (Kd.S_new' ho0 (Kd.S_lt (by (with_reducible repeat (first|apply Kd.S_alloc|apply Kd.S_drewN|apply Kd.S_drew));exact HO_10.out))) (Kd.R_lt (zr HO_11.out))) (Kd.R_lt (zr HO_12.out))) (below_size (zs HB.out)));replace HO_10:=aM (Kd.S_elder' (by (with_reducible repeat (first|apply Kd.S_alloc|apply Kd.S_drewN|apply Kd.S_drew));exact HO_10.out) (Kd.S_base ho0) hb);replace HO_11:=aM (Kd.R_below (zr HO_11.out) hb);replace HO_12:=aM (Kd.R_below (zr HO_12.out) hb);replace BK450:=aM (blk_below (g:=gb450) (o:=.cells #[.int .i64 t447,.int .i64 t448] 26 (0,0)) (zk BK450.out) hb);replace BK463:=aM (blk_below (g:=gb463) (o:=.cells #[.int .i64 t460,.int .i64 t461] 26 (0,0)) (zk BK463.out) hb);replace HB:=aM (below_step (zs HB.out) hb);(try clear hb);(try clear hb2);(try clear hk);(try clear hi);(try clear ho0);obtain ⟨Ao73,co73,eo73⟩:=Kd.S_slice HO467.out;subst eo73)|((with_reducible refine gate_callee (f:=21) rfl ?_);refine gm (some 61) Try.func21 #[.slice Ao29 t451.length co29,.slice Ao73 t465.length co73] ?_;(with_reducible refine (laws_eqIntSS.calls kj15 _ _ t451 _ _ t465 false _ ?side1 ?side2 ?side3 ?side4 A48.out).mono ?_);(case side1=>exact zc (Kd.S_reads' HO_10.out).2.2);(case side2=>exact (Kd.S_reads' HO_10.out).2.1);(case side3=>exact zc (Kd.S_reads' HO467.out).2.2);(case side4=>exact (Kd.S_reads' HO467.out).2.1);rintro e w' ⟨rfl,⟨nd,rfl⟩⟩;refine ⟨_,rfl,?_⟩));go_ret;exact ⟨by first|rfl|(simp [errW_none,errW_some]<;>rfl)|(simp [*,errW_none,errW_some]<;>rfl),zs HB.out⟩
end Go.Proofs.Ytojkepidkmkmpaa.PFnExactValueOf
end
