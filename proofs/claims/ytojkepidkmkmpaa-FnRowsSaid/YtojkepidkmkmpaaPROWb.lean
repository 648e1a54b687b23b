/-
  Goes on where the text before it ends.
  Conditions: none beside the given statement's own.
-/
import Derived.Test.YtojkepidkmkmpaaProg
import Derived.Below
import Derived.Deep.Draws
import Derived.Deep.AppendLies
import Derived.Maps.AppendAt
import Derived.OwnWalk
import Derived.Laws.BytesArg
import Derived.Laws.MakeOwn
import Derived.Laws.OwnMore
import Derived.Deep.OwnRows
import Derived.Tactics
import Derived.Lib.ConvBytes
import Derived.Laws.Slices
import Derived.WalkKit
import Derived.KernelRfl
import Derived.RowKit3
import Derived.Deep.LoopGhost
import Derived.Deep.QuietTactic
import Derived.BigQuiet
import Derived.WideLaws
import Derived.Deep.DeepCutAuto
import Derived.Deep.CutBlock
import Derived.Deep.RegionHeld3
import Derived.Laws.Rows
import Derived.Lib.AppendStr
import Derived.ArgAppend
import Derived.Laws.IdiomCopy
import Derived.OrdersHeld
import Derived.Laws.BitsLemmas
import Derived.RowKit
import Derived.Lib.SliceRun
import Derived.Shelf.SlGeneric
import Derived.Shelf.SlicesE.Delete
import Derived.Ground.SlgnProg
import Derived.Lib.OwnBridge
import Derived.Test.YtojkepidkmkmpaaPROWa
set_option linter.unusedVariables false
set_option linter.unusedSimpArgs false
section
namespace Go.Proofs.YtojkepidkmkmpaaW.PrintWords
open Go.RowKit Go.Proofs.YtojkepidkmkmpaaW.PrintWords Go.Proofs.YtojkepidkmkmpaaW.PrintLast Go.Proofs.YtojkepidkmkmpaaW.PrintMore
set_option linter.unusedVariables false
set_option linter.unusedSimpArgs false
theorem zb {P Q : Prop} (h : P) (q : P → Q := by intro h; repeat (first | (with_reducible first | exact h | apply below_alloc | apply pw_below_drewN | apply below_drew1) | exact h)) : Q := q h
theorem zs {P Q : Prop} (h : P) (q : P → Q := by intro h;repeat (first|(with_reducible first|exact h|apply below_alloc|apply pw_below_drewN|apply below_drew1|refine below_set ?_ (Aside0.out (by with_reducible assumption)))|exact h)) : Q := q h
theorem zr {P Q : Prop} (h : P) (q : P → Q := by intro h; (with_reducible repeat (first | apply Kd.R_alloc | apply Kd.R_drewN | apply Kd.R_drew)); exact h) : Q := q h
theorem zn {P Q : Prop} (h : P) (q : P → Q := by intro h; (with_reducible repeat (first | apply Kd.N_alloc | apply Kd.N_drewN | apply Kd.N_drew)); exact h) : Q := q h
theorem zv {P Q : Prop} (h : P) (q : P → Q := by intro h; (with_reducible repeat (first | apply Kd.V_alloc | apply Kd.V_drewN | apply Kd.V_drew)); exact h) : Q := q h
theorem zk {P Q : Prop} (h : P) (q : P → Q := by intro h;(with_reducible repeat (first|refine blk_drewN ?_ _|refine blk_drew ?_|refine blk_alloc ?_ _));exact h) : Q := q h
theorem zp {P Q : Prop} (h : P) (q : P → Q := by intro h; repeat (first | (with_reducible first | exact h | apply Kept.alloc | apply Kept.drewN | apply Kept.drew) | exact h)) : Q := q h
theorem zc {P Q : Prop} (h : P) (q : P → Q := by intro h;repeat (first|(with_reducible exact h)|(with_reducible refine Kd.C_alloc ?_ _)|(with_reducible refine Kd.C_drewN ?_ _)|(with_reducible refine Kd.C_drew ?_)|exact h)) : Q := q h
theorem zd {p : Prop} [Decidable p] (h : decide p = true := by first | (with_reducible assumption) | assumption) : p := of_decide_eq_true h
theorem zt {p : Prop} (h : p := by first | rfl | (simp; done) | (simp [*]; done)) : p := h
theorem zz {p : Prop} (h : p := by repeat (first | exact Drawn0.refl _ | apply Drawn0.step)) : p := h
theorem ifT {α : Type} {i : Decidable (true = true)} {a b r : α} (h : @ite α (true = true) i a b = r) : a = r := by rwa [if_pos rfl] at h
theorem ifF {α : Type} {i : Decidable (false = true)} {a b r : α} (h : @ite α (false = true) i a b = r) : b = r := by rwa [if_neg (by simp)] at h
theorem bz {α β : Type} {o : Option α} {f : α → Option β} {r : β} (h : o.bind f = some r) : ∃ a, Aside0 (o = some a) ∧ f a = some r := by
 obtain ⟨a, h1, h2⟩ := Option.bind_eq_some_iff.mp h
 exact ⟨a, ⟨h1⟩, h2⟩
theorem iN {α : Type} {c : Prop} {i : Decidable c} {a : Option α} {r : α} (h : @ite _ c i a none = some r) : decide c = true ∧ a = some r := by
 by_cases hc : c
 ·rw [if_pos hc] at h; exact ⟨decide_eq_true hc, h⟩
 ·rw [if_neg hc] at h; cases h
theorem zg {g : Nat} {w W : World} (hg : g = W.heap.size) (h : Below w.heap.size w W) : w.heap.size ≤ g := by rw [hg]; exact below_size h
section
variable {P : Program} {ops : Array Oper} {Q : Exit → Act → World → Prop} {md : Region.Mode} {S : World → Prop} {ds : List Nat}
theorem pu {T : Bool × List (List Nat × List Nat)} {oi : Oper} {v : Value} {fuel : Nat} {l : Array Bool} {a a' : Act} {w : World} (i : Nat) (N : Option Tmp) (l' : Array Bool) (hi : ops[i]? = some oi) (hN : oi.dst = N) (hT : Aside0 (rtab md ops = T)) (h : wpAnyLast P md ops Q S ds fuel l' a' w)
  (hc : anyT T l.toList l'.toList i = true := by kernel_rfl) (hQ : ∀ c a w, Q (.panic c) (a.put oi.dst v) w → Q (.panic c) a w := by exact fun _ _ _ h => h) (hw : Region.wanted oi (yielded ops a.tmps) = true := by rfl)
  (hy : ∀ w, (execOp a.eval oi).run P w = .ok (.value v) w := by intro w';go_simp;with_reducible rfl) (ha : a.put N v = a' := by simp only [Act.put, List.setIfInBounds_toArray, List.set_cons_zero, List.set_cons_succ, i64_w, i32_w];rfl) : wpAnyLast P md ops Q S ds (fuel + 1) l a w :=
 pure_ l' hi hN (any_of hT.out hc) hQ (Or.inl ⟨hw, hy⟩) ha h
theorem gm {rest : List Oper} {oi : Oper} {a : Act} {w : World} (N : Option Tmp) {f : FuncId} {fn : Func} {ao : Array Operand} {ts : Array TypeId} (hf : P.funcs[f]? = some fn) (args : Array Value)
  (h : Calls P f args w fun e w' => ∃ v, e = .returned v ∧ wpList P ops Q rest (a.put N v) w') (hd : oi.dst = N := by exact rfl) (hg : oi.guard = none := by exact rfl) (hname : (fn.name == "runtime.NumGoroutine") = false := by kernel_rfl) (hb : fn.body.isSome = true := by exact rfl)
  (hop : oi.op = .call { callee := .value (.func f), args := ao, argTypes := ts } := by exact rfl) (hargs : ao.map a.eval = args := by (try simp only [List.map_toArray, List.map_cons, List.map_nil]); first | done | rfl | (simp only [List.length_drop, List.length_take]; rfl)) : wpList P ops Q (oi :: rest) a w := goesL_ N hd hg hf hname hb args hop hargs h
theorem gs {oi : Oper} {N : Option Tmp} {a : Act} {w : World} {K : Act → World → Prop} {f : FuncId} {fn : Func} {ao : Array Operand} {ts : Array TypeId} (hf : P.funcs[f]? = some fn) (args : Array Value)
  (h : Calls P f args w fun e w' => ∃ v, e = .returned v ∧ K (a.put N v) w') (hname : (fn.name == "runtime.NumGoroutine") = false := by kernel_rfl) (hb : fn.body.isSome = true := by exact rfl)
  (hw : Region.wanted oi (yielded ops a.tmps) = true := by rfl) (hN : oi.dst = N := by exact rfl) (hop : oi.op = .call { callee := .value (.func f), args := ao, argTypes := ts } := by exact rfl) (hargs : ao.map a.eval = args := by (try simp only [List.map_toArray, List.map_cons, List.map_nil]); first | done | rfl | (simp only [List.length_drop, List.length_take]; rfl)) : if Region.wanted oi (yielded ops a.tmps) = true then Oper.wp P oi a w K Q else K (a.put N undef) w := goes_ hf hname hb args hw hN hop hargs h
end
end Go.Proofs.YtojkepidkmkmpaaW.PrintWords
end
section
namespace Go.Proofs.Ytojkepidkmkmpaa.PFnRows
open Go.Proofs.YtojkepidkmkmpaaW.PrintWords.Aside0 renaming mk → aM
open List renaming setIfInBounds_toArray → qa, set_cons_zero → qz, set_cons_succ → qs
open Bool renaming true → tt, false → ff
open Option renaming bind_eq_some_iff → bE

open Go.RowKit Go.Proofs.YtojkepidkmkmpaaW.PrintWords Go.Proofs.YtojkepidkmkmpaaW.PrintLast Go.Proofs.YtojkepidkmkmpaaW.PrintMore
attribute [local go_sem] max2_int min2_int max_two min_two max_three min_three max_four min_four
set_option linter.unusedVariables false
set_option linter.unusedSimpArgs false
def errW : Option Int → Value
 | none => .nilIface
 | some c => .iface 0 (.int .i64 c)
theorem errW_none : errW none = .nilIface := rfl
theorem errW_some (c : Int) : errW (some c) = .iface 0 (.int .i64 c) := rfl
theorem info4 : (Try.prog.info? 4).map (fun i => (i.zero, i.size, i.bytes)) = some (some (.bool false), 1, 1) := by kernel_rfl
theorem info3 : (Try.prog.info? 3).map (fun i => (i.zero, i.size, i.bytes)) = some (some (.int .i64 0), 1, 8) := by kernel_rfl
theorem info23 : (Try.prog.info? 23).map (fun i => (i.zero, i.size, i.bytes)) = some (some (.slice none 0 0), 1, 24) := by kernel_rfl
def rd_L1 (xs : List (List Int)) (i : Int) : (List Int) := xs.getD i.toNat ([] : List Int)
theorem at_L1 {w : World} {A : Option Addr} {n : Nat} {xs : List (List Int)} (h : Kd.C (Kd.slice 3 (Kd.int .i64)) w A n xs) (i : Int) (h0 : 0 ≤ i) (h1 : i < n) : ∃ ad A0 c0, A = some ad ∧ w.cell? (ad.add i.toNat) = some (.slice A0 (rd_L1 xs i).length c0) ∧ (rd_L1 xs i).length ≤ c0 ∧ (Kd.int .i64).C w A0 (rd_L1 xs i).length (rd_L1 xs i) := by
 obtain ⟨ad, c, e, _, hK, hc0⟩ := Kd.C_get h ([] : List Int) i h0 h1
 have hc : ∀ j u, c[j]? = some u → w.cell? (ad.add (i.toNat * 1 + j)) = some u := hc0
 obtain ⟨A0, c0, rfl, l0, g0⟩ := hK
 exact ⟨ad, A0, c0, e, by have hq := hc 0 _ rfl; rwa [Nat.mul_one, Nat.add_zero] at hq, l0, g0⟩
end Go.Proofs.Ytojkepidkmkmpaa.PFnRows
end
section
namespace Go.Proofs.Ytojkepidkmkmpaa.PFnRows
open Go.Proofs.YtojkepidkmkmpaaW.PrintWords.Aside0 renaming mk → aM
open List renaming setIfInBounds_toArray → qa, set_cons_zero → qz, set_cons_succ → qs
open Bool renaming true → tt, false → ff
open Option renaming bind_eq_some_iff → bE

open Go.RowKit Go.Proofs.YtojkepidkmkmpaaW.PrintWords Go.Proofs.YtojkepidkmkmpaaW.PrintLast Go.Proofs.YtojkepidkmkmpaaW.PrintMore
attribute [local go_sem] max2_int min2_int max_two min_two max_three min_three max_four min_four
set_option linter.unusedVariables false
set_option linter.unusedSimpArgs false
def laws_big.f (l0 : List Int) : Option (Bool) := some (decide ((l0.length : Int) > 1048576))
set_option maxHeartbeats 8000000 in
set_option maxRecDepth 100000 in
theorem laws_big.calls (A0 : Option Addr) (c0 : Nat) (l0 : List Int) (r : Bool) (w : World) (hr0 : Kd.C (Kd.int .u8) w A0 l0.length l0) (hc0 : l0.length ≤ c0) (h : laws_big.f l0 = some r) :
 Calls Try.prog 23 #[.slice A0 l0.length c0] w fun e w' => e = .returned (.bool r) ∧ Drawn0 w w' := by
 have HR0:=aM hr0;have HC0:=aM hc0;clear hr0 hc0;have H:(some (decide ((l0.length:Int) > 1048576)))=some r:=h;clear h;obtain rfl:=Option.some.inj H;go_enter Try.func23,Try.ntmps23;go_wp2;go_ret;exact ⟨zt,zz⟩
def impl_InRange.f (a0 : Int) (a1 : Int) (a2 : Int) : Option (Bool) := if a1 ≤ a0 then (some (decide (a0 ≤ a2))) else (some false)
set_option maxHeartbeats 8000000 in
set_option maxRecDepth 100000 in
theorem impl_InRange.calls (a0 : Int) (a1 : Int) (a2 : Int) (r : Bool) (w : World) (h : impl_InRange.f a0 a1 a2 = some r) :
 Calls Try.prog 81 #[.int .i64 a0, .int .i64 a1, .int .i64 a2] w fun e w' => e = .returned (.bool r) ∧ Drawn0 w w' := by
 have H:(if a1≤a0 then (some (decide (a0≤a2))) else (some false))=some r:=h;clear h;by_cases c4:a1≤a0
 ·rw [if_pos c4] at H;have c4b0:decide (a1≤a0)=true:=decide_eq_true c4;clear c4;obtain rfl:=Option.some.inj H;go_enter Try.func81,Try.ntmps81;go_wp2;go_ret;exact ⟨zt,zz⟩
 ·rw [if_neg c4] at H;have c4b0:decide (a1≤a0)=false:=decide_eq_false c4;clear c4;obtain rfl:=Option.some.inj H;go_enter Try.func81,Try.ntmps81;go_wp2;go_ret;exact ⟨zt,zz⟩
def impl_allIn.l0 : Nat → Int → Int → List Int → Int → Int → Option (Bool)
 | 0, _, _, _, _, _ => none
 | k + 1, x1, x2, x9, x10, x11 => if x11 < x10 then (if 0 ≤ x11 then (if x11 < (x9.length : Int) then ((impl_InRange.f (rd x9 x11) x1 x2).bind fun t102 => (if t102 = true then (impl_allIn.l0 k x1 x2 x9 x10 (wrap64 (x11 + 1))) else (some false))) else (none)) else (none)) else (some true)
def impl_allIn.f (k : Nat) (l0 : List Int) (a1 : Int) (a2 : Int) : Option (Bool) := impl_allIn.l0 k a1 a2 l0 (l0.length : Int) 0
set_option maxHeartbeats 8000000 in
set_option maxRecDepth 100000 in
theorem impl_allIn.calls (k : Nat) (A0 : Option Addr) (c0 : Nat) (l0 : List Int) (a1 : Int) (a2 : Int) (r : Bool) (w : World) (hr0 : Kd.C (Kd.int .i64) w A0 l0.length l0) (hc0 : l0.length ≤ c0) (h : impl_allIn.f k l0 a1 a2 = some r) :
 Calls Try.prog 82 #[.slice A0 l0.length c0, .int .i64 a1, .int .i64 a2] w fun e w' => e = .returned (.bool r) ∧ Drawn0 w w' := by
 have HR0:=aM hr0;have HC0:=aM hc0;clear hr0 hc0;have H:(impl_allIn.l0 k a1 a2 l0 (l0.length:Int) 0)=some r:=h;clear h;have H':=aM H;clear H;go_enter Try.func82,Try.ntmps82;go_wp2;go_loopg [11] k (fun kq v11 w'=>∃(x11_1:Int),v11 = .int .i64 x11_1∧Aside0 (impl_allIn.l0 kq a1 a2 l0 (l0.length:Int) x11_1=some r)∧Aside0 (kq≤k)∧Drawn0 w w');(case atStart=>exact ⟨(0),zt,H',⟨Nat.le_refl _⟩,by repeat (first|exact Drawn0.refl _|apply Drawn0.step)⟩)
 case round=>
  clear H';(try clear p2);obtain ⟨x11_1,rfl,HA,HK1,⟨m1,rfl⟩⟩:=hrel;cases gk with
  | zero=>exact absurd HA.out (by simp [impl_allIn.l0])
  | succ k1=>
   have H:=HA.out;clear HA;simp only [impl_allIn.l0] at H;by_cases c4:x11_1<(l0.length:Int)
   ·rw [if_pos c4] at H;have c4b0:decide (x11_1<(l0.length:Int))=true:=decide_eq_true c4;clear c4;obtain ⟨c5b0,H⟩:=iN H;obtain ⟨c6b0,H⟩:=iN H;obtain ⟨t102,A7,H⟩:=bz H;by_cases c8:t102=true
    ·subst c8;replace H:=ifT H;have H':=aM H;clear H;have p101:0≤(x11_1:Int):=zd;have q101:x11_1<(l0.length:Int):=zd;obtain ⟨ad101,e101,hx101_0⟩:=Kd.at_int HR0.out x11_1 p101 q101;cases e101;replace p101:=eq_true p101;replace q101:=eq_true q101;go_wp2_with (first|((with_reducible refine gate_callee (f:=81) rfl ?_);refine gm (some 18) Try.func81 #[.int .i64 (rd l0 x11_1),.int .i64 a1,.int .i64 a2] ?_;(with_reducible refine (impl_InRange.calls (rd l0 x11_1) a1 a2 true _ A7.out).mono ?_);rintro e w' ⟨rfl,⟨nd,rfl⟩⟩;refine ⟨_,rfl,?_⟩));go_roundg k1;(case measure=>have:=HK1.out;omega);(case rel=>exact ⟨(wrap64 (x11_1+1)),zt,H',⟨by have:=HK1.out;omega⟩,by repeat (first|exact Drawn0.refl _|apply Drawn0.step)⟩)
    ·replace c8:=Bool.eq_false_iff.mpr c8;subst c8;replace H:=ifF H;obtain rfl:=Option.some.inj H;have p101:0≤(x11_1:Int):=zd;have q101:x11_1<(l0.length:Int):=zd;obtain ⟨ad101,e101,hx101_0⟩:=Kd.at_int HR0.out x11_1 p101 q101;cases e101;replace p101:=eq_true p101;replace q101:=eq_true q101;go_wp2_with (first|((with_reducible refine gate_callee (f:=81) rfl ?_);refine gm (some 18) Try.func81 #[.int .i64 (rd l0 x11_1),.int .i64 a1,.int .i64 a2] ?_;(with_reducible refine (impl_InRange.calls (rd l0 x11_1) a1 a2 false _ A7.out).mono ?_);rintro e w' ⟨rfl,⟨nd,rfl⟩⟩;refine ⟨_,rfl,?_⟩));go_ret;exact ⟨zt,zz⟩
   ·rw [if_neg c4] at H;have c4b0:decide (x11_1<(l0.length:Int))=false:=decide_eq_false c4;clear c4;obtain rfl:=Option.some.inj H;go_wp2;go_ret;exact ⟨zt,zz⟩
mutual
def impl_IsMatrix.j0 : Nat → List (List Int) → Int → Bool → Option (Bool)
 | 0, _, _, _ => none
 | k + 1, x0, x1, x14 => if x14 = true then (some false) else (impl_IsMatrix.l0 k x1 x0 (x0.length : Int) 0)
def impl_IsMatrix.l0 : Nat → Int → List (List Int) → Int → Int → Option (Bool)
 | 0, _, _, _, _ => none
 | k + 1, x1, x15, x16, x17 => if x17 < x16 then (if 0 ≤ x17 then (if x17 < (x15.length : Int) then (if ((rd_L1 x15 x17).length : Int) = x1 then ((impl_allIn.f k (rd_L1 x15 x17) (-2) 2).bind fun t105 => (if t105 = true then (impl_IsMatrix.l0 k x1 x15 x16 (wrap64 (x17 + 1))) else (some false))) else (some false)) else (none)) else (none)) else (some true)
end
def impl_IsMatrix.f (k : Nat) (l0 : List (List Int)) (a1 : Int) : Option (Bool) := (impl_InRange.f a1 1 6).bind fun t103 => (if t103 = true then (impl_IsMatrix.j0 k l0 a1 (decide ((l0.length : Int) > 12))) else (impl_IsMatrix.j0 k l0 a1 true))
set_option maxHeartbeats 8000000 in
set_option maxRecDepth 100000 in
theorem impl_IsMatrix.calls (k : Nat) (A0 : Option Addr) (c0 : Nat) (l0 : List (List Int)) (a1 : Int) (r : Bool) (w : World) (hr0 : Kd.C (Kd.slice 3 (Kd.int .i64)) w A0 l0.length l0) (hc0 : l0.length ≤ c0) (h : impl_IsMatrix.f k l0 a1 = some r) :
 Calls Try.prog 40 #[.slice A0 l0.length c0, .int .i64 a1] w fun e w' => e = .returned (.bool r) ∧ Drawn0 w w' := by
 have HR0:=aM hr0;have HC0:=aM hc0;clear hr0 hc0;have H:((impl_InRange.f a1 1 6).bind fun t103=>(if t103=true then (impl_IsMatrix.j0 k l0 a1 (decide ((l0.length:Int) > 12))) else (impl_IsMatrix.j0 k l0 a1 true)))=some r:=h;clear h;have HC3:=aM H;clear H;go_enter Try.func40,Try.ntmps40;go_upto_region 1 with (fail)
 go_cut [14] (fun v14 wc=>∃(kq:Nat) (x14_2:Bool),v14 = .bool x14_2∧Aside0 (impl_IsMatrix.j0 kq l0 a1 x14_2=some r)∧Aside0 (kq≤k)∧Drawn0 w wc)
 case first=>
  have H:=HC3.out;clear HC3;obtain ⟨t103,A4,H⟩:=bz H;by_cases c5:t103=true
  ·subst c5;replace H:=ifT H;have H':=aM H;clear H;go_wp2_with (first|((with_reducible refine gate_callee (f:=81) rfl ?_);refine gm (some 8) Try.func81 #[.int .i64 a1,.int .i64 1,.int .i64 6] ?_;(with_reducible refine (impl_InRange.calls a1 1 6 true _ A4.out).mono ?_);rintro e w' ⟨rfl,⟨nd,rfl⟩⟩;refine ⟨_,rfl,?_⟩));go_meet;(case rel=>exact ⟨_,(decide ((l0.length:Int) > 12)),zt,H',⟨by first|omega|exact Nat.le_refl _⟩,by repeat (first|exact Drawn0.refl _|apply Drawn0.step)⟩)
  ·replace c5:=Bool.eq_false_iff.mpr c5;subst c5;replace H:=ifF H;have H':=aM H;clear H;go_wp2_with (first|((with_reducible refine gate_callee (f:=81) rfl ?_);refine gm (some 8) Try.func81 #[.int .i64 a1,.int .i64 1,.int .i64 6] ?_;(with_reducible refine (impl_InRange.calls a1 1 6 false _ A4.out).mono ?_);rintro e w' ⟨rfl,⟨nd,rfl⟩⟩;refine ⟨_,rfl,?_⟩));go_meet;(case rel=>exact ⟨_,(true),zt,H',⟨by first|omega|exact Nat.le_refl _⟩,by repeat (first|exact Drawn0.refl _|apply Drawn0.step)⟩)
 case rest=>
  clear HC3;(try clear p2);(try clear c4);(try clear c5);obtain ⟨kq,x14_2,rfl,HA,HJ2,⟨mc2,rfl⟩⟩:=hcut;cases kq with
  | zero=>exact absurd HA.out (by simp [impl_IsMatrix.j0])
  | succ kj2=>
   have H:=HA.out;clear HA;simp only [impl_IsMatrix.j0] at H;by_cases c6:x14_2=true
   ·subst c6;replace H:=ifT H;obtain rfl:=Option.some.inj H;go_wp2;go_ret;exact ⟨zt,zz⟩
   ·replace c6:=Bool.eq_false_iff.mpr c6;subst c6;replace H:=ifF H;have H':=aM H;clear H;go_wp2;go_loopg [17] kj2 (fun kq v17 w'=>∃(x17_2:Int),v17 = .int .i64 x17_2∧Aside0 (impl_IsMatrix.l0 kq a1 l0 (l0.length:Int) x17_2=some r)∧Aside0 (kq≤kj2)∧Drawn0 w w');(case atStart=>exact ⟨(0),zt,H',⟨Nat.le_refl _⟩,by repeat (first|exact Drawn0.refl _|apply Drawn0.step)⟩)
    case round=>
     clear H';(try clear c2);(try clear p2);(try clear c4);(try clear c5);(try clear c6);(try clear p2);obtain ⟨x17_2,rfl,HA,HK2,⟨m2,rfl⟩⟩:=hrel;cases gk with
     | zero=>exact absurd HA.out (by simp [impl_IsMatrix.l0])
     | succ k2=>
      have H:=HA.out;clear HA;simp only [impl_IsMatrix.l0] at H;by_cases c7:x17_2<(l0.length:Int)
      ·rw [if_pos c7] at H;have c7b0:decide (x17_2<(l0.length:Int))=true:=decide_eq_true c7;clear c7;obtain ⟨c8b0,H⟩:=iN H;obtain ⟨c9b0,H⟩:=iN H;by_cases c10:((rd_L1 l0 x17_2).length:Int)=a1
       ·rw [if_pos c10] at H;have c10b0:(((rd_L1 l0 x17_2).length:Int) == a1)=true:=beq_iff_eq.mpr c10;have c10b1:(((rd_L1 l0 x17_2).length:Int) != a1)=false:=bne_eq_false_iff_eq.mpr c10;clear c10;obtain ⟨t105,A11,H⟩:=bz H;by_cases c12:t105=true
        ·subst c12;replace H:=ifT H;have H':=aM H;clear H;have p104:0≤(x17_2:Int):=zd;have q104:x17_2<(l0.length:Int):=zd;obtain ⟨ad104,A104_0,c104_0,e104,hx104_0,hl104_0,hi104_0⟩:=at_L1 HR0.out x17_2 p104 q104;cases e104;have HR104_0:=aM hi104_0;have HC104_0:=aM hl104_0;clear hi104_0 hl104_0;replace p104:=eq_true p104;replace q104:=eq_true q104;go_wp2_with (first|(go_at_call 82;(with_reducible refine (impl_allIn.calls k2 _ _ (rd_L1 l0 x17_2) (-2) 2 true _ ?side1 ?side2 A11.out).mono ?_);(case side1=>exact zc HR104_0.out);(case side2=>exact HC104_0.out);rintro e w' ⟨rfl,⟨nd,rfl⟩⟩));go_roundg k2;(case measure=>have:=HJ2.out;have:=HK2.out;omega);(case rel=>exact ⟨(wrap64 (x17_2+1)),zt,H',⟨by have:=HJ2.out;have:=HK2.out;omega⟩,by repeat (first|exact Drawn0.refl _|apply Drawn0.step)⟩)
        ·replace c12:=Bool.eq_false_iff.mpr c12;subst c12;replace H:=ifF H;obtain rfl:=Option.some.inj H;have p104:0≤(x17_2:Int):=zd;have q104:x17_2<(l0.length:Int):=zd;obtain ⟨ad104,A104_0,c104_0,e104,hx104_0,hl104_0,hi104_0⟩:=at_L1 HR0.out x17_2 p104 q104;cases e104;have HR104_0:=aM hi104_0;have HC104_0:=aM hl104_0;clear hi104_0 hl104_0;replace p104:=eq_true p104;replace q104:=eq_true q104;go_wp2_with (first|(go_at_call 82;(with_reducible refine (impl_allIn.calls k2 _ _ (rd_L1 l0 x17_2) (-2) 2 false _ ?side1 ?side2 A11.out).mono ?_);(case side1=>exact zc HR104_0.out);(case side2=>exact HC104_0.out);rintro e w' ⟨rfl,⟨nd,rfl⟩⟩));go_ret;exact ⟨zt,zz⟩
       ·rw [if_neg c10] at H;have c10b0:(((rd_L1 l0 x17_2).length:Int) == a1)=false:=beq_eq_false_iff_ne.mpr c10;have c10b1:(((rd_L1 l0 x17_2).length:Int) != a1)=true:=bne_iff_ne.mpr c10;obtain rfl:=Option.some.inj H;have p104:0≤(x17_2:Int):=zd;have q104:x17_2<(l0.length:Int):=zd;obtain ⟨ad104,A104_0,c104_0,e104,hx104_0,hl104_0,hi104_0⟩:=at_L1 HR0.out x17_2 p104 q104;cases e104;have HR104_0:=aM hi104_0;have HC104_0:=aM hl104_0;clear hi104_0 hl104_0;replace p104:=eq_true p104;replace q104:=eq_true q104;go_wp2;go_ret;exact ⟨zt,zz⟩
      ·rw [if_neg c7] at H;have c7b0:decide (x17_2<(l0.length:Int))=false:=decide_eq_false c7;clear c7;obtain rfl:=Option.some.inj H;go_wp2;go_ret;exact ⟨zt,zz⟩
theorem slices_Clone_int_int_95.eql_nil (w : World) (t e : TypeId) (a : Option Addr) (n c : Nat) (h : Try.prog.underlying t = some (.slice e)) :
  (Go.binOp .eql t (.slice a n c) (.slice none 0 0)).run Try.prog w = .ok (.bool a.isNone) w := Go.Lib.run_eql_slice_nil w t e a n c 0 0 h
def slices_Clone_int_int_95.f (l0 : List Int) : Option (List Int) := (some (([] : List Int) : List Int)).bind fun y106 => (if y106.length + l0.length < 17592186044416 then (some (y106 ++ l0)) else (none))
set_option maxHeartbeats 8000000 in
set_option maxRecDepth 100000 in
theorem slices_Clone_int_int_95.calls (A0 : Option Addr) (c0 : Nat) (l0 : List Int) (r : List Int) (w : World) (hr0 : Kd.C (Kd.int .i64) w A0 l0.length l0) (hc0 : l0.length ≤ c0) (h : slices_Clone_int_int_95.f l0 = some r) :
 Calls Try.prog 95 #[.slice A0 l0.length c0] w fun e w' => ∃ v0_ : Value, e = .returned (v0_) ∧ Kd.R (Kd.int .i64) 3 w' w.heap.size (fun _ => True) v0_ r ∧ Below w.heap.size w w' := by
 have HR0:=aM hr0;have HC0:=aM hc0;clear hr0 hc0;cases A0 with
 | none=>
  have hl:l0=[]:=by
   cases l0 with
   | nil=>rfl
   | cons a l=>
    obtain ⟨ad,e,_⟩:=HR0.out.2.2 (by simp);cases e
  subst hl;have hr:r=[]:=(by simpa [slices_Clone_int_int_95.f] using h.symm);subst hr;clear h;have heq:∀W:World,(Go.binOp .eql 23 (.slice none 0 c0) (.slice none 0 0)).run Try.prog W = .ok (.bool true) W:=fun W=>slices_Clone_int_int_95.eql_nil W 23 _ _ _ _ Try.underlying23;go_enter Try.func95,Try.ntmps95;go_wp2;go_ret;exact ⟨_,rfl,Kd.R_nil _ _ _ _ _,Below.refl _ _⟩
 | some ad0=>
  have heq:∀W:World,(Go.binOp .eql 23 (.slice (some ad0) l0.length c0) (.slice none 0 0)).run Try.prog W = .ok (.bool false) W:=fun W=>slices_Clone_int_int_95.eql_nil W 23 _ _ _ _ Try.underlying23;have HB:=aM (Below.refl w.heap.size w);have H:((some (([]:List Int):List Int)).bind fun y106=>(if y106.length+l0.length<17592186044416 then (some (y106 ++ l0)) else (none)))=some r:=h;clear h;obtain ⟨y106,hy106⟩:∃y_:List Int,y_=(([]:List Int)):=⟨_,rfl⟩;replace H:(if y106.length+l0.length<17592186044416 then (some (y106 ++ l0)) else (none))=some r:=(by first|(rw [hy106];with_reducible exact H)|(have H2_:=(Option.bind_some _ _).symm.trans H;rw [hy106];with_reducible exact H2_)|(have H2_:=(Option.bind_some _ _).symm.trans H;with_reducible exact H2_)|with_reducible exact H|(rw [hy106];exact H)|exact H);have Ny106:=aM hy106;clear hy106;by_cases c2:y106.length+l0.length<17592186044416
  ·rw [if_pos c2] at H;have LMc2:=aM c2;clear c2;obtain ⟨y109,hy109⟩:∃y_:List Int,y_=(y106 ++ l0):=⟨_,rfl⟩;replace H:(some y109)=some r:=(by first|(rw [hy109];with_reducible exact H)|(have H2_:=(Option.bind_some _ _).symm.trans H;rw [hy109];with_reducible exact H2_)|(have H2_:=(Option.bind_some _ _).symm.trans H;with_reducible exact H2_)|with_reducible exact H|(rw [hy109];exact H)|exact H);have Ny109:=aM hy109;clear hy109;obtain rfl:=Option.some.inj H;go_enter Try.func95,Try.ntmps95;go_wp2_with (first|((with_reducible refine gate_dst (N:=5) rfl ?_);refine Kd.R_lit (Kd.int .i64) _ 3 ?hg (N:=5) ?hd (xs:=([]:List Int)) (inner:=[]) (ok:=fun _=>True) (okp:=fun _=>True) ?hr ?hp (fun _ hk=>hk) trivial (Below.refl _ _) (Nat.le_refl _) (by simp) ?_;(case hd=>rfl);(case hg=>rfl);(case hr=>first|(go_simp;done)|(go_simp;rfl));(case hp=>exact (Reps.none _ _));intro v107 w3 ho4 hb hg_ hnew_;clear hg_ hnew_;(first|rw [← Ny106.out] at ho4|(simp only [Int.reduceToNat] at ho4;rw [← Ny106.out] at ho4));have HO108:=aM (Kd.R_lower ho4 (below_size (zb HB.out)));replace HB:=aM (below_step (zb HB.out) hb);clear hb ho4)|((with_reducible refine gate_builtin (b:=.append) (xs:=#[.tmp 5,.tmp 6]) rfl ?_);at_builtin;refine Kd.R_append_rows (Kd.int .i64) (w0:=w) w.heap.size rfl (.tmp 5) (.tmp 6) 23 3 (.int .i64 0) 8 rfl Try.underlying23 info3 rfl (by decide) (by omega) v107 y106 l0 _ _ _ (fun _=>True) (fun _=>False) rfl rfl ?aO ?aR (fun _ _ h=>h) (fun _ h=>h.elim) ?aF ?aB ?aS ?aL ?_;(case aR=>exact zc (Kd.C_below HR0.out HB.out));(case aB=>exact (zb HB.out));(case aF=>exact (fun _ _=>trivial));(case aO=>exact (zr HO108.out));(case aS=>exact (below_size (zb HB.out)));(case aL=>have:=LMc2.out;omega);intro v110 w5 ho hb hg hat;rw [← Ny109.out] at ho;replace HB:=aM (hb);have HO111:=aM (ho);clear HO108 ho hb hg hat));go_ret;exact ⟨_,by first|rfl|(simp [errW_none,errW_some]<;>rfl)|(simp [*,errW_none,errW_some]<;>rfl),zr HO111.out,zb HB.out⟩
  ·rw [if_neg c2] at H;exact absurd H (by simp)
def impl_copyRows.l0 : Nat → List (List Int) → List (List Int) → Int → Int → Option ((List (List Int)))
 | 0, _, _, _, _ => none
 | k + 1, x3, x6, x7, x8 => if x8 < x7 then (if 0 ≤ x8 then (if x8 < (x6.length : Int) then ((slices_Clone_int_int_95.f (rd_L1 x6 x8)).bind fun t113 => (if x3.length < 5864062014805 then (impl_copyRows.l0 k (x3 ++ [t113]) x6 x7 (wrap64 (x8 + 1))) else (none))) else (none)) else (none)) else (some x3)
def impl_copyRows.f (k : Nat) (l0 : List (List Int)) : Option ((List (List Int))) := impl_copyRows.l0 k ([] : List (List Int)) l0 (l0.length : Int) 0
set_option maxHeartbeats 8000000 in
set_option maxRecDepth 100000 in
theorem impl_copyRows.calls (k : Nat) (A0 : Option Addr) (c0 : Nat) (l0 : List (List Int)) (r : List (List Int)) (w : World) (hr0 : Kd.C (Kd.slice 3 (Kd.int .i64)) w A0 l0.length l0) (hc0 : l0.length ≤ c0) (h : impl_copyRows.f k l0 = some r) :
 Calls Try.prog 104 #[.slice A0 l0.length c0] w fun e w' => ∃ v0_ : Value, e = .returned (v0_) ∧ Kd.S (Kd.slice 3 (Kd.int .i64)) 23 w' w.heap.size (fun _ => True) v0_ r ∧ Below w.heap.size w w' := by
 have HR0:=aM hr0;have HC0:=aM hc0;clear hr0 hc0;have HB:=aM (Below.refl w.heap.size w);have H:(impl_copyRows.l0 k ([]:List (List Int)) l0 (l0.length:Int) 0)=some r:=h;clear h;have H':=aM H;clear H;go_enter Try.func104,Try.ntmps104;go_wp2;go_loopg [3,8] k (fun kq v3 v8 w'=>∃(x3_1:List (List Int)) (x8_1:Int),v8 = .int .i64 x8_1∧Aside0 (impl_copyRows.l0 kq x3_1 l0 (l0.length:Int) x8_1=some r)∧Aside0 (kq≤k)∧Aside0 (Kd.S (Kd.slice 3 (Kd.int .i64)) 23 w' w.heap.size (fun _=>True) v3 x3_1)∧Aside0 (Below w.heap.size w w'));(case atStart=>exact ⟨(([]:List (List Int))),(0),zt,H',⟨Nat.le_refl _⟩,⟨by first|exact Kd.S_nil _ _ _ _ _|exact Kd.N_nil _ _ _ _ _|exact Kd.V_nil _ _ _ _ _|exact Kd.Q_nil _ _ _ _ _|exact Kd.R_nil _ _ _ _ _⟩,⟨zb HB.out⟩⟩)
 case round=>
  clear H';(try clear c1);obtain ⟨x3_1,x8_1,rfl,HA,HK1,HO_3,HB⟩:=hrel;cases gk with
  | zero=>exact absurd HA.out (by simp [impl_copyRows.l0])
  | succ k1=>
   have H:=HA.out;clear HA;simp only [impl_copyRows.l0] at H;by_cases c2:x8_1<(l0.length:Int)
   ·rw [if_pos c2] at H;have c2b0:decide (x8_1<(l0.length:Int))=true:=decide_eq_true c2;clear c2;obtain ⟨c3b0,H⟩:=iN H;obtain ⟨c4b0,H⟩:=iN H;obtain ⟨t113,A5,H⟩:=bz H;by_cases c6:x3_1.length<5864062014805
    ·rw [if_pos c6] at H;have LMc6:=aM c6;clear c6;obtain ⟨y116,hy116⟩:∃y_:List (List Int),y_=(x3_1 ++ [t113]):=⟨_,rfl⟩;replace H:(impl_copyRows.l0 k1 y116 l0 (l0.length:Int) (wrap64 (x8_1+1)))=some r:=(by first|(rw [hy116];with_reducible exact H)|(have H2_:=(Option.bind_some _ _).symm.trans H;rw [hy116];with_reducible exact H2_)|(have H2_:=(Option.bind_some _ _).symm.trans H;with_reducible exact H2_)|with_reducible exact H|(rw [hy116];exact H)|exact H);have Ny116:=aM hy116;clear hy116;have H':=aM H;clear H;have p112:0≤(x8_1:Int):=zd;have q112:x8_1<(l0.length:Int):=zd;obtain ⟨ad112,A112_0,c112_0,e112,hx112_0,hl112_0,hi112_0⟩:=at_L1 HR0.out x8_1 p112 q112;cases e112;replace hx112_0:=(HB.out.cell (World.block_lt_of_cell? w _ hx112_0)).trans hx112_0;have HR112_0:=aM hi112_0;have HC112_0:=aM hl112_0;clear hi112_0 hl112_0;replace p112:=eq_true p112;replace q112:=eq_true q112;go_wp2_with (first|((with_reducible refine gate_callee (f:=95) rfl ?_);refine gm (some 14) Try.func95 #[.slice A112_0 (rd_L1 l0 x8_1).length c112_0] ?_;(with_reducible refine (slices_Clone_int_int_95.calls _ _ (rd_L1 l0 x8_1) t113 _ ?side1 ?side2 A5.out).mono ?_);(case side1=>exact zc (Kd.C_below HR112_0.out HB.out));(case side2=>exact HC112_0.out);rintro e w7 ⟨v114,rfl,ho0,hb⟩;refine ⟨_,rfl,?_⟩;replace HO_3:=aM (Kd.S_elder' (by (with_reducible repeat (first|apply Kd.S_alloc|apply Kd.S_drewN|apply Kd.S_drew));exact HO_3.out) (Kd.R_base ho0) hb);have HO115:=aM (Kd.R_lower ho0 (below_size (zb HB.out)));replace HB:=aM (below_step (zb HB.out) hb);(try clear hb);(try clear hb2);(try clear hk);(try clear hi);(try clear ho0);obtain ⟨Ao9,co9,eo9⟩:=Kd.R_slice HO115.out;subst eo9)|((with_reducible refine gate_builtin (b:=.append) (xs:=#[.tmp 12,.tmp 15]) rfl ?_);at_builtin;refine Kd.S_append (Kd.slice 3 (Kd.int .i64)) (w0:=w) w.heap.size rfl (.tmp 12) (.tmp 15) 22 23 (.slice none 0 0) 24 rfl Try.underlying22 info23 rfl (by decide) (by omega) u3 x3_1 t113 [.slice Ao9 t113.length co9] (fun _=>True) (fun k_=>some k_=(.slice Ao9 t113.length co9:Value).ownBlock) rfl rfl ?aP (fun k_ hk_=>((Kd.R_mono (ok':=fun k_=>((fun _=>True)) k_∧some k_≠(u3:Value).ownBlock) (Kd.R_apart' (HO115.out) (Kd.S_typed HO_3.out) (by decide)) (fun k_ hk=>⟨trivial,hk.2⟩))).1 k_ hk_.symm) ?aF ?aO ?aB ?aS ?aL ?_;(case aP=>exact Kd.M_row (Kd.R_mono (Kd.R_tight rfl (Kd.R_mono (ok':=fun k_=>((fun _=>True)) k_∧some k_≠(u3:Value).ownBlock) (Kd.R_apart' (HO115.out) (Kd.S_typed HO_3.out) (by decide)) (fun k_ hk=>⟨trivial,hk.2⟩))) (fun _ h_=>h_)));(case aB=>exact (zb HB.out));(case aF=>exact (fun _ _=>trivial));(case aO=>exact (by (with_reducible repeat (first|apply Kd.S_alloc|apply Kd.S_drewN|apply Kd.S_drew));exact Kd.S_mono HO_3.out (fun k_ hk=>⟨trivial,fun e_=>hk.2 e_⟩)));(case aS=>exact (below_size (zb HB.out)));(case aL=>have:=LMc6.out;omega);intro v117 w8 ho hb hg hat;rw [← Ny116.out] at ho;replace HB:=aM (hb);have HO118:=aM (ho);clear HO_3 HO115 ho hb hg hat));go_roundg k1;(case measure=>have:=HK1.out;omega);(case rel=>exact ⟨(y116),(wrap64 (x8_1+1)),zt,H',⟨by have:=HK1.out;omega⟩,⟨by (with_reducible repeat (first|apply Kd.S_alloc|apply Kd.S_drewN|apply Kd.S_drew));exact HO118.out⟩,⟨zb HB.out⟩⟩)
    ·rw [if_neg c6] at H;exact absurd H (by simp)
   ·rw [if_neg c2] at H;have c2b0:decide (x8_1<(l0.length:Int))=false:=decide_eq_false c2;clear c2;obtain rfl:=Option.some.inj H;go_wp2;go_ret;exact ⟨_,by first|rfl|(simp [errW_none,errW_some]<;>rfl)|(simp [*,errW_none,errW_some]<;>rfl),by (with_reducible repeat (first|apply Kd.S_alloc|apply Kd.S_drewN|apply Kd.S_drew));exact HO_3.out,zb HB.out⟩
theorem slices_IndexFunc_int_int_96.goesV {P : Program} {ops : Array Oper} {Q : Exit → Act → World → Prop} {rest : List Oper} {oi : Oper} {a : Act} {w : World} (N : Option Tmp) (hd : oi.dst = N) (hg : oi.guard = none) {f : FuncId} {fn : Func} {x : Operand} {asx : Array Operand} {ts : Array TypeId} {lb : Array Value} (hf : P.funcs[f]? = some fn) (hname : (fn.name == "runtime.NumGoroutine") = false) (hb : fn.body.isSome = true) (args : Array Value)
  (hop : oi.op = .call { callee := .value x, args := asx, argTypes := ts }) (hx : a.eval x = .func (.func f) #[] lb) (hargs : asx.map a.eval ++ lb = args)
  (h : Calls P f args w fun e w' => ∃ v, e = .returned v ∧ wpList P ops Q rest (a.put N v) w') : wpList P ops Q (oi :: rest) a w := by
 refine wpList_plain hg fun K hK => ?_
 have he := enters_ hf hname hb args w
 have hx' : a.eval x = .func (.func f) #[] lb := hx
 have hargs' : asx.map a.eval ++ lb = args := hargs
 have hrun : (execOp a.eval oi).run P w = .ok (.enter f args) w := by
  unfold execOp
  simp [hop, resolve, Deferred.ofValue, invoke, hx', hargs', he]
 unfold Oper.wp
 rw [hrun, Oper.upon_enter]
 refine h.mono fun e w'' hh => ?_
 obtain ⟨v, rfl, hk⟩ := hh
 subst hd
 exact hK _ _ hk
theorem slices_IndexFunc_int_int_96.pred (n : Int) (w : World) : Calls Try.prog 97 #[.int .i64 n] w fun e w' => e = .returned (.bool (n != 0)) ∧ Drawn0 w w' := by
 go_enter Try.func97, Try.ntmps97
 go_wp2
 go_ret
 exact ⟨by first|rfl|(simp;done), by repeat (first|exact Drawn0.refl _|apply Drawn0.step)⟩
def slices_IndexFunc_int_int_96.l0 : Nat → List Int → Int → Int → Option (Int)
 | 0, _, _, _ => none
 | k + 1, x0, x7, x8 => if x8 < x7 then (if 0 ≤ x8 then (if x8 < (x0.length : Int) then (if (rd x0 x8) = 0 then (slices_IndexFunc_int_int_96.l0 k x0 x7 (wrap64 (x8 + 1))) else (some x8)) else (none)) else (none)) else (some (-1))
def slices_IndexFunc_int_int_96.f (k : Nat) (l0 : List Int) : Option (Int) := slices_IndexFunc_int_int_96.l0 k l0 (l0.length : Int) 0
set_option maxHeartbeats 8000000 in
set_option maxRecDepth 100000 in
theorem slices_IndexFunc_int_int_96.calls (k : Nat) (A0 : Option Addr) (c0 : Nat) (l0 : List Int) (r : Int) (w : World) (hr0 : Kd.C (Kd.int .i64) w A0 l0.length l0) (hc0 : l0.length ≤ c0) (h : slices_IndexFunc_int_int_96.f k l0 = some r) :
 Calls Try.prog 96 #[.slice A0 l0.length c0, .func (.func 97) #[] #[]] w fun e w' => e = .returned (.int .i64 r) ∧ Drawn0 w w' := by
 have HR0:=aM hr0;have HC0:=aM hc0;clear hr0 hc0;have H:(slices_IndexFunc_int_int_96.l0 k l0 (l0.length:Int) 0)=some r:=h;clear h;have H':=aM H;clear H;go_enter Try.func96,Try.ntmps96;go_wp2;go_loopg [8] k (fun kq v8 w'=>∃(x8_1:Int),v8 = .int .i64 x8_1∧Aside0 (slices_IndexFunc_int_int_96.l0 kq l0 (l0.length:Int) x8_1=some r)∧Aside0 (kq≤k)∧Drawn0 w w');(case atStart=>exact ⟨(0),zt,H',⟨Nat.le_refl _⟩,by repeat (first|exact Drawn0.refl _|apply Drawn0.step)⟩)
 case round=>
  clear H';obtain ⟨x8_1,rfl,HA,HK1,⟨m1,rfl⟩⟩:=hrel;cases gk with
  | zero=>exact absurd HA.out (by simp [slices_IndexFunc_int_int_96.l0])
  | succ k1=>
   have H:=HA.out;clear HA;simp only [slices_IndexFunc_int_int_96.l0] at H;by_cases c2:x8_1<(l0.length:Int)
   ·rw [if_pos c2] at H;have c2b0:decide (x8_1<(l0.length:Int))=true:=decide_eq_true c2;clear c2;obtain ⟨c3b0,H⟩:=iN H;obtain ⟨c4b0,H⟩:=iN H;by_cases c5:(rd l0 x8_1)=0
    ·rw [if_pos c5] at H;have c5b0:((rd l0 x8_1) == 0)=true:=beq_iff_eq.mpr c5;have c5b1:((rd l0 x8_1) != 0)=false:=bne_eq_false_iff_eq.mpr c5;clear c5;have H':=aM H;clear H;have p119:0≤(x8_1:Int):=zd;have q119:x8_1<(l0.length:Int):=zd;obtain ⟨ad119,e119,hx119_0⟩:=Kd.at_int HR0.out x8_1 p119 q119;cases e119;replace p119:=eq_true p119;replace q119:=eq_true q119;go_wp2_with ((with_reducible refine gate_dst (N:=16) rfl ?_);refine slices_IndexFunc_int_int_96.goesV (some 16) rfl rfl Try.func97 (by kernel_rfl) rfl #[.int .i64 (rd l0 x8_1)] rfl rfl (by (try simp only [List.map_toArray,List.map_cons,List.map_nil]);first|done|rfl) ?_;refine (slices_IndexFunc_int_int_96.pred (rd l0 x8_1) _).mono ?_;rintro e w_ ⟨rfl,⟨nd_,rfl⟩⟩;refine ⟨_,rfl,?_⟩);go_roundg k1;(case measure=>have:=HK1.out;omega);(case rel=>exact ⟨(wrap64 (x8_1+1)),zt,H',⟨by have:=HK1.out;omega⟩,by repeat (first|exact Drawn0.refl _|apply Drawn0.step)⟩)
    ·rw [if_neg c5] at H;have c5b0:((rd l0 x8_1) == 0)=false:=beq_eq_false_iff_ne.mpr c5;have c5b1:((rd l0 x8_1) != 0)=true:=bne_iff_ne.mpr c5;obtain rfl:=Option.some.inj H;have p119:0≤(x8_1:Int):=zd;have q119:x8_1<(l0.length:Int):=zd;obtain ⟨ad119,e119,hx119_0⟩:=Kd.at_int HR0.out x8_1 p119 q119;cases e119;replace p119:=eq_true p119;replace q119:=eq_true q119;go_wp2_with ((with_reducible refine gate_dst (N:=16) rfl ?_);refine slices_IndexFunc_int_int_96.goesV (some 16) rfl rfl Try.func97 (by kernel_rfl) rfl #[.int .i64 (rd l0 x8_1)] rfl rfl (by (try simp only [List.map_toArray,List.map_cons,List.map_nil]);first|done|rfl) ?_;refine (slices_IndexFunc_int_int_96.pred (rd l0 x8_1) _).mono ?_;rintro e w_ ⟨rfl,⟨nd_,rfl⟩⟩;refine ⟨_,rfl,?_⟩);go_ret;exact ⟨zt,zz⟩
   ·rw [if_neg c2] at H;have c2b0:decide (x8_1<(l0.length:Int))=false:=decide_eq_false c2;clear c2;obtain rfl:=Option.some.inj H;go_wp2;go_ret;exact ⟨zt,zz⟩
def impl_lead.f (k : Nat) (l0 : List Int) : Option (Int) := (slices_IndexFunc_int_int_96.f k l0).bind fun t120 => (some t120)
set_option maxHeartbeats 8000000 in
set_option maxRecDepth 100000 in
theorem impl_lead.calls (k : Nat) (A0 : Option Addr) (c0 : Nat) (l0 : List Int) (r : Int) (w : World) (hr0 : Kd.C (Kd.int .i64) w A0 l0.length l0) (hc0 : l0.length ≤ c0) (h : impl_lead.f k l0 = some r) :
 Calls Try.prog 59 #[.slice A0 l0.length c0] w fun e w' => e = .returned (.int .i64 r) ∧ Drawn0 w w' := by
 have HR0:=aM hr0;have HC0:=aM hc0;clear hr0 hc0;have H:((slices_IndexFunc_int_int_96.f k l0).bind fun t120=>(some t120))=some r:=h;clear h;obtain ⟨t120,A2,H⟩:=bz H;obtain rfl:=Option.some.inj H;go_enter Try.func59,Try.ntmps59;go_wp2_with (first|((with_reducible refine gate_callee (f:=96) rfl ?_);refine gm (some 4) Try.func96 #[.slice A0 l0.length c0,.func (.func 97) #[] #[]] ?_;(with_reducible refine (slices_IndexFunc_int_int_96.calls k _ _ l0 t120 _ ?side1 ?side2 A2.out).mono ?_);(case side1=>exact zc HR0.out);(case side2=>exact HC0.out);rintro e w' ⟨rfl,⟨nd,rfl⟩⟩;refine ⟨_,rfl,?_⟩));go_ret;exact ⟨zt,zz⟩
end Go.Proofs.Ytojkepidkmkmpaa.PFnRows
end
section
namespace Go.Proofs
open Go.Shelf
def Try.del_ren : Go.Shelf.Ren := ⟨fun | 45 => 108 | n => n, fun | 22 => 22 | 23 => 23 | 3 => 3 | 4 => 4 | 0 => 0 | n => n, fun | n => n⟩
theorem Try.del : Go.Proofs.SlLaysE.n45 Try.prog Try.del_ren := {
 mixed := by kernel_rfl
 f45 := ⟨Try.f108.name, by decide, Try.func108.trans (congrArg some (by kernel_rfl))⟩
 t0 := Try.underlying0
 a0 := Try.isAgg0
 z0 := Try.sizeOf0
 v0 := Try.zeroValue0
 t3 := Try.underlying3
 a3 := Try.isAgg3
 z3 := Try.sizeOf3
 v3 := Try.zeroValue3
 t4 := Try.underlying4
 a4 := Try.isAgg4
 z4 := Try.sizeOf4
 v4 := Try.zeroValue4
 t22 := Try.underlying22
 a22 := Try.isAgg22
 z22 := Try.sizeOf22
 v22 := Try.zeroValue22
 a23 := Try.isAgg23
 z23 := Try.sizeOf23 }
end Go.Proofs
end
section
namespace Go.Proofs
theorem Try.prog_info23 : (Try.prog.info? 23).map (fun i => i.size) = some 1 := by kernel_rfl
end Go.Proofs
namespace Go.Proofs.YtojkepidkmkmpaaRed
open Go.RowKit Go.Proofs.YtojkepidkmkmpaaW.PrintWords
def sv (n : Nat) (p : Nat × Nat) : Value := .slice (some ⟨p.1, 0, none⟩) n p.2
def SK (n : Nat) : Kd (Nat × Nat) := Kd.scalar (sv n) (fun _ => rfl)
def RowIs (w : World) (base n : Nat) (p : Nat × Nat) (x : List Int) : Prop := Kd.R (Kd.int .i64) 3 w base (fun k => k = p.1) (sv n p) x
structure RowsAre (w : World) (base n : Nat) (ps : List (Nat × Nat)) (xs : List (List Int)) : Prop where
 len : ps.length = xs.length
 row : ∀ (i : Nat) (p : Nat × Nat) (x : List Int), ps[i]? = some p → xs[i]? = some x → RowIs w base n p x
def Spine (w : World) (base n : Nat) (v : Value) (ps : List (Nat × Nat)) : Prop := (SK n).R 23 w base (fun k => some k = v.ownBlock) v ps
theorem RowIs.len {w : World} {base n : Nat} {p : Nat × Nat} {x : List Int} (h : RowIs w base n p x) : x.length = n := by
 obtain ⟨A, c, e, _⟩ := Kd.R_slice h |>.elim fun A h => h.elim fun c h => (⟨A, c, h, trivial⟩ : ∃ A c, sv n p = .slice A x.length c ∧ True)
 unfold sv at e
 injection e with _ h2 _
 exact h2.symm
theorem RowIs.typed {w : World} {base n : Nat} {p : Nat × Nat} {x : List Int} (h : RowIs w base n p x) : ∃ cells, w.heap[p.1]? = some (.cells cells 3 (0, 0)) := Kd.R_typed h p.1 rfl
theorem RowIs.lt {w : World} {base n : Nat} {p : Nat × Nat} {x : List Int} (h : RowIs w base n p x) : p.1 < w.heap.size := Kd.R_lt h p.1 rfl
theorem RowIs.base {w : World} {base n : Nat} {p : Nat × Nat} {x : List Int} (h : RowIs w base n p x) : base ≤ p.1 := Kd.R_base h p.1 rfl
theorem RowIs.kept {w w' : World} {base n : Nat} {p : Nat × Nat} {x : List Int} (h : RowIs w base n p x) {S : Nat → Prop} (hk : Kept w w' S) (hn : ¬ S p.1) : RowIs w' base n p x :=
 Kd.R_kept h hk fun k hk => by rw [hk]; exact hn
theorem Spine.kept {w w' : World} {base n : Nat} {v : Value} {ps : List (Nat × Nat)} (h : Spine w base n v ps) {S : Nat → Prop} (hk : Kept w w' S) (hn : ∀ k, v.ownBlock = some k → ¬ S k) : Spine w' base n v ps :=
 Kd.R_kept h hk fun k hk => hn k hk.symm
theorem Spine.typed {w : World} {base n : Nat} {v : Value} {ps : List (Nat × Nat)} (h : Spine w base n v ps) : ∀ k, v.ownBlock = some k → ∃ cells, w.heap[k]? = some (.cells cells 23 (0, 0)) := Kd.R_typed h
theorem Spine.lt {w : World} {base n : Nat} {v : Value} {ps : List (Nat × Nat)} (h : Spine w base n v ps) : ∀ k, v.ownBlock = some k → k < w.heap.size := Kd.R_lt h
theorem Spine.base {w : World} {base n : Nat} {v : Value} {ps : List (Nat × Nat)} (h : Spine w base n v ps) : ∀ k, v.ownBlock = some k → base ≤ k := Kd.R_base h
theorem Spine.apart {w : World} {base n : Nat} {v : Value} {ps : List (Nat × Nat)} (h : Spine w base n v ps) {p : Nat × Nat} {x : List Int} (hr : RowIs w base n p x) : v.ownBlock ≠ some p.1 := fun e => by
 obtain ⟨c1, h1⟩ := h.typed p.1 e
 obtain ⟨c2, h2⟩ := hr.typed
 rw [h1] at h2
 injection h2 with h2
 injection h2 with _ h2
 exact absurd h2 (by decide)
theorem Spine.form {w : World} {base n : Nat} {v : Value} {ps : List (Nat × Nat)} (h : Spine w base n v ps) : ∃ A c, v = .slice A ps.length c ∧ ps.length ≤ c := by
 obtain ⟨A, c, e, hl, _⟩ := Kd.R_reads h
 exact ⟨A, c, e, hl⟩
theorem Spine.at_ {w : World} {base n N : Nat} {A : Option Addr} {c : Nat} {ps : List (Nat × Nat)} (h : Spine w base n (.slice A N c) ps) (i : Int) (h0 : 0 ≤ i) (h1 : i < N) :
  ∃ ad p, A = some ad ∧ ps[i.toNat]? = some p ∧ w.cell? (ad.add i.toNat) = some (.slice (some ⟨p.1, 0, none⟩) n p.2) := by
 obtain ⟨hN, _, hC⟩ := Kd.R_reads' h
 subst hN
 obtain ⟨ad, e, hc⟩ := ReadsOf.at_ (Kd.reads_of_C (enc := sv n) (d := ((0, 0) : Nat × Nat)) (h1 := fun _ => rfl) hC) i h0 h1
 have hi : i.toNat < ps.length := by omega
 refine ⟨ad, ps[i.toNat], e, List.getElem?_eq_getElem hi, ?_⟩
 rw [hc]
 unfold rdOf
 rw [List.getD_eq_getElem?_getD, List.getElem?_eq_getElem hi]
 rfl
theorem Spine.atN {w : World} {base n N : Nat} {A : Option Addr} {c : Nat} {ps : List (Nat × Nat)} (h : Spine w base n (.slice A N c) ps) (i : Nat) (h1 : i < N) :
  ∃ ad p, A = some ad ∧ ps[i]? = some p ∧ w.cell? (ad.add i) = some (.slice (some ⟨p.1, 0, none⟩) n p.2) := by
 obtain ⟨ad, p, h⟩ := h.at_ (i : Int) (by omega) (by omega)
 rw [Int.toNat_natCast] at h
 exact ⟨ad, p, h⟩
theorem Spine.formN {w : World} {base n N : Nat} {A : Option Addr} {c : Nat} {ps : List (Nat × Nat)} (h : Spine w base n (.slice A N c) ps) (h0 : 0 < N) :
  ∃ g, A = some ⟨g, 0, none⟩ ∧ base ≤ g ∧ ∀ i, i < N → ∃ p, ps[i]? = some p ∧ w.cell? ⟨g, i, none⟩ = some (.slice (some ⟨p.1, 0, none⟩) n p.2) := by
 have hN := (Kd.R_reads' h).1
 obtain ⟨g, cap, e, hb, _⟩ := Kd.R_form h (by omega)
 injection e with e1 _ _
 subst e1
 refine ⟨g, rfl, hb, fun i hi => ?_⟩
 obtain ⟨ad, p, e2, hp, hc⟩ := h.atN i hi
 injection e2 with e2
 subst e2
 refine ⟨p, hp, ?_⟩
 rw [add_plain] at hc
 exact hc
theorem cell_new (w : World) (v : Value) (T : TypeId) : (w.alloc (.cells #[v] T)).cell? ⟨w.heap.size, 0, none⟩ = some v := by
 have h := heap_alloc_new w (.cells #[v] T)
 unfold World.cell?
 simp only [h]
 rfl
theorem drawn_kept {w w' : World} {o : Obj} (h : Drawn0 (w.alloc o) w') (S : Nat → Prop) : Kept w w' S := by
 obtain ⟨n, rfl⟩ := h
 exact ((Kept.refl w S).alloc o).drewN n
theorem drawn_below {w0 w w' : World} {o : Obj} (h : Drawn0 (w.alloc o) w') (hb : Below w0.heap.size w0 w) : Below w0.heap.size w0 w' := by
 obtain ⟨n, rfl⟩ := h
 exact pw_below_drewN (below_alloc hb o) n
theorem drawn_cell {w w' : World} {a : Addr} {v : Value} (h : Drawn0 w w') (hc : w.cell? a = some v) : w'.cell? a = some v := by
 obtain ⟨n, rfl⟩ := h
 exact hc
theorem one_C {w : World} {b : Nat} {A : Option Addr} {c : Nat} {l : List Int} (h : (Kd.int .i64).C w A l.length l) (hc : l.length ≤ c) (hcell : w.cell? ⟨b, 0, none⟩ = some (.slice A l.length c)) : (Kd.slice 3 (Kd.int .i64)).C w (some ⟨b, 0, none⟩) [l].length [l] := by
 refine ⟨rfl, by simp, fun _ => ⟨⟨b, 0, none⟩, rfl, fun j p hj => ?_⟩⟩
 cases j with
|succ j => simp at hj
|zero =>
  simp only [List.getElem?_cons_zero, Option.some.injEq] at hj
  subst hj
  refine ⟨[.slice A l.length c], rfl, ⟨A, c, rfl, hc, h⟩, fun i u hu => ?_⟩
  cases i with
 |succ i => simp at hu
 |zero =>
   simp only [List.getElem?_cons_zero, Option.some.injEq] at hu
   subst hu
   simpa [add_plain] using hcell
def off (a b : Nat) : Nat → Nat
 | 0 => 0
 | 1 => a
 | _ => a + b
theorem perm_move {ps qs : List (Nat × Nat)} {i : Nat} {p : Nat × Nat} (hp : ps[i]? = some p) (h : ((ps ++ qs).map (·.1)).Nodup) : ((ps.eraseIdx i ++ (qs ++ [p])).map (·.1)).Nodup := by
 obtain ⟨hi, rfl⟩ := List.getElem?_eq_some_iff.1 hp
 have h1 : (ps.eraseIdx i ++ (qs ++ [ps[i]])).Perm (ps ++ qs) := by
  have h2 : (ps[i] :: ps.eraseIdx i).Perm ps := by
   have e : ps = ps.take i ++ ps[i] :: ps.drop (i + 1) := by rw [← List.drop_eq_getElem_cons hi, List.take_append_drop]
   have h4 := (List.perm_middle (a := ps[i]) (l₁ := ps.take i) (l₂ := ps.drop (i + 1))).symm
   rw [← e] at h4
   rw [List.eraseIdx_eq_take_drop_succ]
   exact h4
  have h3 : (ps.eraseIdx i ++ (qs ++ [ps[i]])).Perm (ps[i] :: (ps.eraseIdx i ++ qs)) := by
   rw [← List.append_assoc]
   exact List.perm_append_singleton _ _
  exact h3.trans ((List.Perm.append_right qs h2))
 exact ((h1.map (·.1)).nodup_iff).2 h
theorem nodup_erase {ps qs : List (Nat × Nat)} {i : Nat} {p : Nat × Nat} (hp : ps[i]? = some p) (h : ((ps ++ qs).map (·.1)).Nodup) : ((ps.eraseIdx i ++ qs).map (·.1)).Nodup ∧ ∀ q ∈ ps.eraseIdx i ++ qs, q.1 ≠ p.1 := by
 have h1 := perm_move hp h
 rw [← List.append_assoc, List.map_append] at h1
 have h2 := List.nodup_append.1 h1
 refine ⟨h2.1, fun q hq => ?_⟩
 exact h2.2.2 _ (List.mem_map_of_mem hq) _ (by simp)
theorem Spine.nil (w : World) (base n : Nat) : Spine w base n (.slice none 0 0) [] := Kd.R_nil _ _ _ _ _
theorem RowsAre.nil (w : World) (base n : Nat) : RowsAre w base n [] [] := ⟨rfl, fun i p x h => by simp at h⟩
theorem RowsAre.kept {w w' : World} {base n : Nat} {ps : List (Nat × Nat)} {xs : List (List Int)} (h : RowsAre w base n ps xs) {S : Nat → Prop} (hk : Kept w w' S) (hn : ∀ p ∈ ps, ¬ S p.1) : RowsAre w' base n ps xs :=
 ⟨h.len, fun i p x hp hx => (h.row i p x hp hx).kept hk (hn p (List.mem_of_getElem? hp))⟩
theorem RowsAre.get {w : World} {base n : Nat} {ps : List (Nat × Nat)} {xs : List (List Int)} (h : RowsAre w base n ps xs) {i : Nat} {p : Nat × Nat} (hp : ps[i]? = some p) : ∃ x, xs[i]? = some x ∧ RowIs w base n p x := by
 have hi : i < xs.length := by rw [← h.len]; exact (List.getElem?_eq_some_iff.1 hp).1
 exact ⟨xs[i], List.getElem?_eq_getElem hi, h.row i p _ hp (List.getElem?_eq_getElem hi)⟩
theorem RowsAre.mem {w : World} {base n : Nat} {ps : List (Nat × Nat)} {xs : List (List Int)} (h : RowsAre w base n ps xs) {p : Nat × Nat} (hp : p ∈ ps) : ∃ x, RowIs w base n p x := by
 obtain ⟨i, hi⟩ := List.getElem?_of_mem hp
 obtain ⟨x, _, hx⟩ := h.get hi
 exact ⟨x, hx⟩
theorem RowsAre.append {w : World} {base n : Nat} {ps qs : List (Nat × Nat)} {xs ys : List (List Int)} (h : RowsAre w base n ps xs) (k : RowsAre w base n qs ys) : RowsAre w base n (ps ++ qs) (xs ++ ys) := by
 refine ⟨by rw [List.length_append, List.length_append, h.len, k.len], fun i p x hp hx => ?_⟩
 rcases Nat.lt_or_ge i ps.length with hi|hi
 ·rw [List.getElem?_append_left hi] at hp
  rw [List.getElem?_append_left (by rw [← h.len];exact hi)] at hx
  exact h.row i p x hp hx
 ·rw [List.getElem?_append_right hi] at hp
  rw [List.getElem?_append_right (by rw [← h.len];exact hi), ← h.len] at hx
  exact k.row _ p x hp hx
theorem RowsAre.left {w : World} {base n : Nat} {ps qs : List (Nat × Nat)} {xs ys : List (List Int)} (h : RowsAre w base n (ps ++ qs) (xs ++ ys)) (hl : ps.length = xs.length) : RowsAre w base n ps xs :=
 ⟨hl, fun i p x hp hx => h.row i p x (by rw [List.getElem?_append_left (List.getElem?_eq_some_iff.1 hp).1]; exact hp) (by rw [List.getElem?_append_left (List.getElem?_eq_some_iff.1 hx).1]; exact hx)⟩
theorem RowsAre.right {w : World} {base n : Nat} {ps qs : List (Nat × Nat)} {xs ys : List (List Int)} (h : RowsAre w base n (ps ++ qs) (xs ++ ys)) (hl : ps.length = xs.length) : RowsAre w base n qs ys := by
 have h2 := h.len
 rw [List.length_append, List.length_append] at h2
 refine ⟨by omega, fun i p x hp hx => h.row (ps.length + i) p x ?_ ?_⟩
 ·rw [List.getElem?_append_right (by omega), Nat.add_sub_cancel_left];exact hp
 ·rw [List.getElem?_append_right (by omega), hl, Nat.add_sub_cancel_left];exact hx
theorem RowsAre.erase {w : World} {base n : Nat} {ps : List (Nat × Nat)} {xs : List (List Int)} (h : RowsAre w base n ps xs) (j : Nat) : RowsAre w base n (ps.eraseIdx j) (xs.eraseIdx j) := by
 refine ⟨by rw [List.length_eraseIdx, List.length_eraseIdx, h.len], fun i p x hp hx => ?_⟩
 rw [List.getElem?_eraseIdx] at hp hx
 split at hp
 ·rename_i hi;rw [if_pos hi] at hx;exact h.row _ p x hp hx
 ·rename_i hi;rw [if_neg hi] at hx;exact h.row _ p x hp hx
def mix (xs ys : List (List Int)) (m : Nat) : List (List Int) := ys.take m ++ xs.drop m
theorem mix_zero (xs ys : List (List Int)) : mix xs ys 0 = xs := by simp [mix]
theorem mix_all (xs ys : List (List Int)) (h : xs.length = ys.length) : mix xs ys xs.length = ys := by
 unfold mix
 rw [List.drop_length, List.append_nil, h, List.take_length]
theorem mix_len (xs ys : List (List Int)) (m : Nat) (h : xs.length = ys.length) : (mix xs ys m).length = xs.length := by
 simp only [mix, List.length_append, List.length_take, List.length_drop]
 omega
theorem mix_get (xs ys : List (List Int)) (m i : Nat) (h : xs.length = ys.length) : (mix xs ys m)[i]? = if i < m then ys[i]? else xs[i]? := by
 unfold mix
 by_cases hi : i < m
 ·rw [if_pos hi]
  by_cases h2 : i < ys.length
  ·rw [List.getElem?_append_left (by rw [List.length_take]; omega), List.getElem?_take, if_pos hi]
  ·rw [List.getElem?_append_right (by rw [List.length_take]; omega), List.getElem?_eq_none (l := ys) (by omega), List.getElem?_eq_none]
   rw [List.length_drop, List.length_take]
   omega
 ·rw [if_neg hi]
  by_cases h2 : i < ys.length
  ·rw [List.getElem?_append_right (by rw [List.length_take]; omega), List.length_take, List.getElem?_drop]
   congr 1
   omega
  ·rw [List.getElem?_append_right (by rw [List.length_take]; omega), List.length_take, List.getElem?_drop, List.getElem?_eq_none (by omega), List.getElem?_eq_none (by omega)]
theorem RowsAre.step {w w' : World} {base n : Nat} {ps : List (Nat × Nat)} {xs ys : List (List Int)} (hxy : xs.length = ys.length) {m : Nat} (h : RowsAre w base n ps (mix xs ys m)) (hn : (ps.map (·.1)).Nodup) {p : Nat × Nat} {y : List Int}
  (hp : ps[m]? = some p) (hy : ys[m]? = some y) (hk : Kept w w' (fun k => k = p.1)) (hr : RowIs w' base n p y) : RowsAre w' base n ps (mix xs ys (m + 1)) := by
 have hl := h.len
 rw [mix_len _ _ _ hxy] at hl
 refine ⟨by rw [mix_len _ _ _ hxy];exact hl, fun i q x hq hx => ?_⟩
 rw [mix_get _ _ _ _ hxy] at hx
 by_cases e : i = m
 ·subst e
  rw [if_pos (by omega), hy] at hx
  rw [hp] at hq
  cases hq;cases hx
  exact hr
 ·refine (h.row i q x hq ?_).kept hk fun e2 => e ?_
  ·rw [mix_get _ _ _ _ hxy]
   by_cases hi : i < m
   ·rw [if_pos hi];rw [if_pos (by omega)] at hx;exact hx
   ·rw [if_neg hi];rw [if_neg (by omega)] at hx;exact hx
  ·have h1 : (ps.map (·.1))[i]? = some q.1 := by rw [List.getElem?_map, hq];rfl
   have h2 : (ps.map (·.1))[m]? = some p.1 := by rw [List.getElem?_map, hp];rfl
   have hi := (List.getElem?_eq_some_iff.1 h1).1
   have hm := (List.getElem?_eq_some_iff.1 h2).1
   exact (List.getElem_inj (h₀ := hi) (h₁ := hm) hn).1 (by rw [(List.getElem?_eq_some_iff.1 h1).2, (List.getElem?_eq_some_iff.1 h2).2];exact e2)
theorem list_of {α : Type} (P : Nat → α → Prop) : ∀ N, (∀ j, j < N → ∃ p, P j p) → ∃ l : List α, l.length = N ∧ ∀ j p, l[j]? = some p → P j p
|0, _ => ⟨[], rfl, fun j p h => by simp at h⟩
|N + 1, h => by
  obtain ⟨l, hl, hP⟩ := list_of P N fun j hj => h j (by omega)
  obtain ⟨p, hp⟩ := h N (by omega)
  refine ⟨l ++ [p], by simp [hl], fun j q hq => ?_⟩
  rcases Nat.lt_or_ge j l.length with hj|hj
  ·rw [List.getElem?_append_left hj] at hq;exact hP j q hq
  ·rw [List.getElem?_append_right hj] at hq
   have hjN : j - l.length < 1 := by
    have := (List.getElem?_eq_some_iff.1 hq).1
    simpa using this
   have : j = N := by omega
   subst this
   rw [hl, Nat.sub_self] at hq
   simp at hq
   rw [← hq];exact hp
theorem of_S {w : World} {base n : Nat} {ok : Nat → Prop} {v : Value} {m : List (List Int)} (h : Kd.S (Kd.slice 3 (Kd.int .i64)) 23 w base ok v m) (hn : 0 < n) (hm : ∀ x ∈ m, x.length = n) :
  ∃ ps, Spine w base n v ps ∧ RowsAre w base n ps m ∧ (ps.map (·.1)).Nodup := by
 obtain ⟨f, h0, inner, ho, hr⟩ := h
 rw [List.length_zipIdx] at ho
 have key : ∀ j, j < m.length → ∃ p : Nat × Nat, inner[j]? = some (sv n p) ∧ f p.1 = j ∧ ∀ x, m[j]? = some x → RowIs w base n p x := by
  intro j hj
  have hx := List.getElem?_eq_getElem hj
  have hz : m.zipIdx[j]? = some (m[j], j) := Kd.zip_at hx
  obtain ⟨v', e, hR⟩ := hr.2 j (m[j], j) hz
  have hlen : m[j].length = n := hm _ (List.getElem_mem hj)
  obtain ⟨g, cap, hv, _⟩ := Kd.R_form hR (by show 0 < m[j].length;omega)
  have hv' : v' = sv n (g, cap) := by rw [hv];show Value.slice _ m[j].length _ = _;rw [hlen];rfl
  refine ⟨(g, cap), ?_, ?_, fun x hx' => ?_⟩
  ·have h1 : ((inner.drop (j * 1)).take 1)[0]? = some v' := by
    have : (inner.drop (j * (Kd.tag f (Kd.slice 3 (Kd.int .i64))).sz)).take (Kd.tag f (Kd.slice 3 (Kd.int .i64))).sz = [v'] := e
    show ((inner.drop (j * (Kd.tag f (Kd.slice 3 (Kd.int .i64))).sz)).take (Kd.tag f (Kd.slice 3 (Kd.int .i64))).sz)[0]? = some v'
    rw [this];rfl
   rw [List.getElem?_take, if_pos (by omega), List.getElem?_drop, Nat.mul_one, Nat.add_zero] at h1
   rw [h1, hv']
  ·exact (hR.1 g (by rw [hv];rfl)).2
  ·rw [hx] at hx'
   cases hx'
   rw [hv'] at hR
   exact Kd.R_mono (Kd.R_tight rfl hR) fun k hk => by
    have : some k = some g := hk
    exact Option.some.inj this
 obtain ⟨ps, hl, hP⟩ := list_of _ _ key
 refine ⟨ps, ?_, ⟨hl, fun i p x hp hx => (hP i p hp).2.2 x hx⟩, ?_⟩
 ·have hin : inner = encs (sv n) ps := by
   apply List.ext_getElem?
   intro j
   unfold encs
   rw [List.getElem?_map]
   rcases Nat.lt_or_ge j ps.length with hj|hj
   ·rw [List.getElem?_eq_getElem hj, (hP j _ (List.getElem?_eq_getElem hj)).1]
    rfl
   ·rw [List.getElem?_eq_none hj, List.getElem?_eq_none]
    ·rfl
    ·have h1 : inner.length = m.length * 1 := ho.1
     omega
  rw [← hl, hin] at ho
  exact Kd.R_of_own (enc := sv n) (h1 := fun _ => rfl) ho fun k hk => hk.symm
 ·rw [List.nodup_iff_pairwise_ne]
  refine List.pairwise_iff_getElem.2 fun i j hi hj hij e => ?_
  rw [List.getElem_map, List.getElem_map] at e
  have hi' : i < ps.length := by simpa using hi
  have hj' : j < ps.length := by simpa using hj
  have h1 := (hP i _ (List.getElem?_eq_getElem hi')).2.1
  have h2 := (hP j _ (List.getElem?_eq_getElem hj')).2.1
  rw [e] at h1
  omega
theorem to_S {w : World} {base n : Nat} {v : Value} {ps : List (Nat × Nat)} {m : List (List Int)} (h : Spine w base n v ps) (hr : RowsAre w base n ps m) (hn : (ps.map (·.1)).Nodup) : Kd.S (Kd.slice 3 (Kd.int .i64)) 23 w base (fun _ => True) v m := by
 have ho := Kd.own_of_R h
 refine ⟨fun k => (ps.map (·.1)).idxOf k, fun _ _ => trivial, encs (sv n) ps, ?_, ?_, ?_⟩
 ·rw [List.length_zipIdx, ← hr.len];exact ho
 ·rw [List.length_zipIdx]
  show (encs (sv n) ps).length = m.length * 1
  simp [encs, hr.len]
 ·rintro j ⟨x, i⟩ hx
  have hj : j < m.length := by
   have := (List.getElem?_eq_some_iff.1 hx).1
   rwa [List.length_zipIdx] at this
  have hx2 : m.zipIdx[j]? = some (m[j], j) := Kd.zip_at (List.getElem?_eq_getElem hj)
  rw [hx2] at hx
  cases hx
  have hjp : j < ps.length := by rw [hr.len];exact hj
  have hrow := hr.row j _ _ (List.getElem?_eq_getElem hjp) (List.getElem?_eq_getElem hj)
  refine ⟨sv n ps[j], ?_, ?_⟩
  ·show (List.drop (j * 1) (encs (sv n) ps)).take 1 = [sv n ps[j]]
   rw [Nat.mul_one]
   unfold encs
   rw [List.drop_eq_getElem_cons (by simpa using hjp)]
   simp
  ·refine Kd.R_mono hrow fun k hk => ⟨⟨trivial, fun e => ?_⟩, ?_⟩
   ·have hk' : k = ps[j].1 := hk
    rw [hk'] at e
    exact h.apart hrow e.symm
   ·have hk' : k = ps[j].1 := hk
    have : (ps.map (·.1))[j]'(by simpa using hjp) = k := by rw [List.getElem_map];exact hk'.symm
    rw [← this]
    exact List.Nodup.idxOf_getElem hn j (by simpa using hjp)
theorem to_C {w : World} {base n N : Nat} {A : Option Addr} {c : Nat} {ps : List (Nat × Nat)} {m : List (List Int)} (h : Spine w base n (.slice A N c) ps) (hr : RowsAre w base n ps m) (hn : (ps.map (·.1)).Nodup) : Kd.C (Kd.slice 3 (Kd.int .i64)) w A m.length m :=
 (Kd.R_reads' (Kd.S_R (to_S h hr hn))).2.2
theorem index_left (A B : Option Addr) (n m c d : Nat) (w : World) : (Instr.index 98 (.agg #[.slice A n c, .slice B m d]) (.int .i64 0)).run Try.prog w = .ok (.slice A n c) w := by
 simp [Instr.index, run_underlying Try.underlying98, asIntOf, go_sem, Try.sizeOf22]
theorem index_right (A B : Option Addr) (n m c d : Nat) (w : World) : (Instr.index 98 (.agg #[.slice A n c, .slice B m d]) (.int .i64 1)).run Try.prog w = .ok (.slice B m d) w := by
 simp [Instr.index, run_underlying Try.underlying98, asIntOf, go_sem, Try.sizeOf22]
theorem delete_one (base n g cap i : Nat) (ps : List (Nat × Nat)) (N : Nat) (w : World) (h : Spine w base n (.slice (some ⟨g, 0, none⟩) N cap) ps) (hi : i < ps.length) :
  Calls Try.prog 108 #[.slice (some ⟨g, 0, none⟩) N cap, .int .i64 (i : Int), .int .i64 ((i : Int) + 1)] w fun e w' => e = .returned (.slice (some ⟨g, 0, none⟩) (ps.eraseIdx i).length cap) ∧
   Spine w' base n (.slice (some ⟨g, 0, none⟩) (ps.eraseIdx i).length cap) (ps.eraseIdx i) ∧ Kept w w' (fun k => k = g) ∧ ∀ w0 : World, Below w0.heap.size w0 w → w0.heap.size ≤ g → Below w0.heap.size w0 w' := by
 have hle : (ps.eraseIdx i).length = ps.length - 1 := by rw [List.length_eraseIdx, if_pos hi]
 rw [hle]
 have ho := Kd.own_of_R h
 have hN : N = ps.length := (Kd.R_reads' h).1
 subst hN
 obtain ⟨zr, hzr⟩ : ∃ zr : Option Addr × Nat × Nat, zr = (none, 0, 0) := ⟨_, rfl⟩
 let enc : Option Addr × Nat × Nat → Value := fun x => .slice x.1 x.2.1 x.2.2
 let zs : List (Option Addr × Nat × Nat) := ps.map fun p => (some ⟨p.1, 0, none⟩, n, p.2)
 have hzs : zs.map enc = encs (sv n) ps := by
  simp only [zs, enc, encs, List.map_map]
  rfl
 have hlz : zs.length = ps.length := by simp [zs]
 have ho2 : w.ownsRow base 23 1 (.slice (some ⟨g, 0, none⟩) ps.length cap) ps.length (zs.map enc) := by rw [hzs];exact ho
 obtain ⟨g', cap', e, _, _, hcap, hmax, _, hH⟩ := Go.Lib.holds_of_ownsRow (α := Option Addr × Nat × Nat) ho2 (by simp)
 injection e with e1 _ e3
 injection e1 with e1
 injection e1 with e1
 subst e1;subst e3
 have hinfo := Try.prog_info23
 obtain ⟨i0, hi0, hz1⟩ : ∃ i0, Try.prog.info? 23 = some i0 ∧ i0.size = 1 := by
  cases hq : Try.prog.info? 23 with
 |none => rw [hq] at hinfo;cases hinfo
 |some i0 => rw [hq] at hinfo;exact ⟨i0, rfl, by simpa using hinfo⟩
 have hc := AnyE.slices_Delete Try.del enc (fun _ => rfl) (none, 0, 0) Try.zeroValue23 i0 hi0 hz1 g 0 cap i (i + 1) zs.toArray w hH (by simpa [hlz] using hcap) (by simp only [maxLen] at hmax;omega) (by omega) (by simp [hlz];omega)
 simp only [List.size_toArray, hlz] at hc
 refine Calls.mono hc fun e w' ⟨he, q, hw⟩ => ?_
 subst hw
 have hy : zs.take i ++ zs.drop (i + 1) ++ List.replicate (i + 1 - i) (none, 0, 0) = zs.eraseIdx i ++ [(none, 0, 0)] := by
  rw [List.eraseIdx_eq_take_drop_succ, show i + 1 - i = 1 by omega]
  rfl
 have hyl : (zs.eraseIdx i ++ [(none, 0, 0)]).length = ps.length := by
  rw [List.length_append, List.length_eraseIdx, if_pos (by omega), hlz]
  simp
  omega
 refine ⟨by rw [he, show i + 1 - i = 1 by omega], ?_, ?_, ?_⟩
 ·have h2 := Go.Lib.ownsRow_putRow (q := q) (k := ps.length - 1) ho2 hyl (by omega)
  have h3 : ((zs.eraseIdx i ++ [((none : Option Addr), 0, 0)]).take (ps.length - 1)).map enc = encs (sv n) (ps.eraseIdx i) := by
   have hl2 : (zs.eraseIdx i).length = ps.length - 1 := by rw [List.length_eraseIdx, if_pos (by omega), hlz]
   rw [← hl2, List.take_left]
   unfold encs
   have h5 : zs.map enc = ps.map (sv n) := hzs
   rw [List.eraseIdx_eq_take_drop_succ, List.eraseIdx_eq_take_drop_succ, List.map_append, List.map_append, List.map_take, List.map_drop, List.map_take, List.map_drop, h5]
  rw [h3] at h2
  have hl3 : (ps.eraseIdx i).length = ps.length - 1 := by rw [List.length_eraseIdx, if_pos hi]
  rw [← hy] at h2
  have h4 := Kd.R_of_own (enc := sv n) (h1 := fun _ => rfl) (ok := fun k => some k = (Value.slice (some ⟨g, 0, none⟩) (ps.length - 1) cap).ownBlock) (xs := ps.eraseIdx i) (by rw [hl3];exact h2) (fun k hk => hk.symm)
  exact h4
 ·refine ⟨by simp [Go.Sort.putRow, Go.Sort.mapBlock, Go.Sort.ahead], fun k hk hne => ?_⟩
  simp [Go.Sort.putRow, Go.Sort.mapBlock, Go.Sort.ahead, Array.getElem?_modify, show g ≠ k from fun e => hne e.symm]
 ·intro w0 hb hg
  exact Go.Lib.below_putRow hb hg
end Go.Proofs.YtojkepidkmkmpaaRed
end
section
namespace Go.Proofs.Ytojkepidkmkmpaa.PFnRows
open Go.Proofs.YtojkepidkmkmpaaW.PrintWords.Aside0 renaming mk → aM
open List renaming setIfInBounds_toArray → qa, set_cons_zero → qz, set_cons_succ → qs
open Bool renaming true → tt, false → ff
open Option renaming bind_eq_some_iff → bE

open Go.RowKit Go.Proofs.YtojkepidkmkmpaaW.PrintWords Go.Proofs.YtojkepidkmkmpaaW.PrintLast Go.Proofs.YtojkepidkmkmpaaW.PrintMore
attribute [local go_sem] max2_int min2_int max_two min_two max_three min_three max_four min_four
set_option linter.unusedVariables false
set_option linter.unusedSimpArgs false
mutual
def impl_gcd.j0 : Nat → Int → Int → Option (Int)
 | 0, _, _ => none
 | k + 1, x0, x1 => if x1 < 0 then (impl_gcd.j1 k x0 (wrap64 (-x1))) else (impl_gcd.j1 k x0 x1)
def impl_gcd.j1 : Nat → Int → Int → Option (Int)
 | 0, _, _ => none
 | k + 1, x0, x1 => impl_gcd.l0 k x0 x1
def impl_gcd.l0 : Nat → Int → Int → Option (Int)
 | 0, _, _ => none
 | k + 1, x0, x1 => if x1 = 0 then (some x0) else (impl_gcd.l0 k x1 (Int.tmod x0 x1))
end
def impl_gcd.f (k : Nat) (a0 : Int) (a1 : Int) : Option (Int) := if a0 < 0 then (impl_gcd.j0 k (wrap64 (-a0)) a1) else (impl_gcd.j0 k a0 a1)
set_option maxHeartbeats 8000000 in
set_option maxRecDepth 100000 in
theorem impl_gcd.calls (k : Nat) (a0 : Int) (a1 : Int) (r : Int) (w : World) (h : impl_gcd.f k a0 a1 = some r) :
 Calls Try.prog 60 #[.int .i64 a0, .int .i64 a1] w fun e w' => e = .returned (.int .i64 r) ∧ Drawn0 w w' := by
 have H:(if a0<0 then (impl_gcd.j0 k (wrap64 (-a0)) a1) else (impl_gcd.j0 k a0 a1))=some r:=h;clear h;have HC3:=aM H;clear H;go_enter Try.func60,Try.ntmps60;go_upto_if 6 with (fail)
 (repeat (go_quiet (fail);go_upto_if 6 with (fail)));go_cut [0] (fun v0 wc=>∃(kq:Nat) (x0_2:Int),v0 = .int .i64 x0_2∧Aside0 (impl_gcd.j0 kq x0_2 a1=some r)∧Aside0 (kq≤k)∧Drawn0 w wc)
 case first=>
  have H:=HC3.out;clear HC3;by_cases c4:a0<0
  ·rw [if_pos c4] at H;have c4b0:decide (a0<0)=true:=decide_eq_true c4;clear c4;(first|rw [c4b0]|(simp only [i64_w,i32_w];rw [c4b0])|skip);have H':=aM H;clear H;go_wp2;(repeat (go_quiet (fail);try go_wp2));go_meet;(case rel=>exact ⟨_,(wrap64 (-a0)),zt,H',⟨by first|omega|exact Nat.le_refl _⟩,by repeat (first|exact Drawn0.refl _|apply Drawn0.step)⟩)
  ·rw [if_neg c4] at H;have c4b0:decide (a0<0)=false:=decide_eq_false c4;clear c4;(first|rw [c4b0]|(simp only [i64_w,i32_w];rw [c4b0])|skip);have H':=aM H;clear H;go_wp2;(repeat (go_quiet (fail);try go_wp2));go_meet;(case rel=>exact ⟨_,(a0),zt,H',⟨by first|omega|exact Nat.le_refl _⟩,by repeat (first|exact Drawn0.refl _|apply Drawn0.step)⟩)
 case rest=>
  clear HC3;(try clear p2);(try clear c4);(try clear c4b0);obtain ⟨kq,x0_2,rfl,HA,HJ2,⟨mc2,rfl⟩⟩:=hcut;cases kq with
  | zero=>exact absurd HA.out (by simp [impl_gcd.j0])
  | succ kj2=>
   have H:=HA.out;clear HA;simp only [impl_gcd.j0] at H;have HC5:=aM H;clear H;go_upto_if 10 with (fail)
   (repeat (go_quiet (fail);go_upto_if 10 with (fail)));go_cut [1] (fun v1 wc=>∃(kq:Nat) (x1_4:Int),v1 = .int .i64 x1_4∧Aside0 (impl_gcd.j1 kq x0_2 x1_4=some r)∧Aside0 (kq≤kj2)∧Drawn0 w wc)
   case first=>
    have H:=HC5.out;clear HC5;by_cases c6:a1<0
    ·rw [if_pos c6] at H;have c6b0:decide (a1<0)=true:=decide_eq_true c6;clear c6;(first|rw [c6b0]|(simp only [i64_w,i32_w];rw [c6b0])|skip);have H':=aM H;clear H;go_wp2;(repeat (go_quiet (fail);try go_wp2));go_meet;(case rel=>exact ⟨_,(wrap64 (-a1)),zt,H',⟨by have:=HJ2.out;first|omega|exact Nat.le_refl _⟩,by repeat (first|exact Drawn0.refl _|apply Drawn0.step)⟩)
    ·rw [if_neg c6] at H;have c6b0:decide (a1<0)=false:=decide_eq_false c6;clear c6;(first|rw [c6b0]|(simp only [i64_w,i32_w];rw [c6b0])|skip);have H':=aM H;clear H;go_wp2;(repeat (go_quiet (fail);try go_wp2));go_meet;(case rel=>exact ⟨_,(a1),zt,H',⟨by have:=HJ2.out;first|omega|exact Nat.le_refl _⟩,by repeat (first|exact Drawn0.refl _|apply Drawn0.step)⟩)
   case rest=>
    clear HC5;(try clear c2);(try clear p2);(try clear c4);(try clear c4b0);(try clear c6);(try clear c6b0);(try clear p6);(try clear p2);obtain ⟨kq,x1_4,rfl,HA,HJ4,⟨mc4,rfl⟩⟩:=hcut;cases kq with
    | zero=>exact absurd HA.out (by simp [impl_gcd.j1])
    | succ kj4=>
     have H:=HA.out;clear HA;simp only [impl_gcd.j1] at H;have H':=aM H;clear H;go_wp2;(repeat (go_quiet (fail);try go_wp2));go_loopg [0,1] kj4 (fun kq v0 v1 w'=>∃(x0_3:Int) (x1_3:Int),v0 = .int .i64 x0_3∧v1 = .int .i64 x1_3∧Aside0 (impl_gcd.l0 kq x0_3 x1_3=some r)∧Aside0 (kq≤kj4)∧Drawn0 w w');(case atStart=>exact ⟨(x0_2),(x1_4),zt,zt,H',⟨Nat.le_refl _⟩,by repeat (first|exact Drawn0.refl _|apply Drawn0.step)⟩)
     case round=>
      clear H';(try clear c2);(try clear p2);(try clear c4);(try clear c4b0);(try clear c6);(try clear c6b0);(try clear p6);(try clear p2);(try clear p6);obtain ⟨x0_3,x1_3,rfl,rfl,HA,HK3,⟨m3,rfl⟩⟩:=hrel;cases gk with
      | zero=>exact absurd HA.out (by simp [impl_gcd.l0])
      | succ k3=>
       have H:=HA.out;clear HA;simp only [impl_gcd.l0] at H;by_cases c7:x1_3=0
       ·rw [if_pos c7] at H;have c7b0:(x1_3 == 0)=true:=beq_iff_eq.mpr c7;have c7b1:(x1_3 != 0)=false:=bne_eq_false_iff_eq.mpr c7;clear c7;obtain rfl:=Option.some.inj H;go_wp2;(repeat (go_quiet (fail);try go_wp2));go_ret;exact ⟨zt,zz⟩
       ·rw [if_neg c7] at H;have c7b0:(x1_3 == 0)=false:=beq_eq_false_iff_ne.mpr c7;have c7b1:(x1_3 != 0)=true:=bne_iff_ne.mpr c7;have H':=aM H;clear H;go_wp2;(repeat (go_quiet (fail);try go_wp2));go_roundg k3;(case measure=>have:=HJ2.out;have:=HJ4.out;have:=HK3.out;omega);(case rel=>exact ⟨(x1_3),(Int.tmod x0_3 x1_3),zt,zt,H',⟨by have:=HJ2.out;have:=HJ4.out;have:=HK3.out;omega⟩,by repeat (first|exact Drawn0.refl _|apply Drawn0.step)⟩)
mutual
def impl_tidy.l0 : Nat → List Int → Int → List Int → Int → Int → Option (List Int)
 | 0, _, _, _, _, _ => none
 | k + 1, x0, x2, x6, x7, x8 => if x8 < x7 then (if 0 ≤ x8 then (if x8 < (x6.length : Int) then ((impl_gcd.f k x2 (rd x6 x8)).bind fun t122 => (impl_tidy.l0 k x0 t122 x6 x7 (wrap64 (x8 + 1)))) else (none)) else (none)) else (if x2 = 0 then (some x0) else ((impl_lead.f k x0).bind fun t123 => (if 0 ≤ t123 then (if t123 < (x0.length : Int) then (if (rd x0 t123) < 0 then (impl_tidy.j1 k x0 (wrap64 (-x2))) else (impl_tidy.j1 k x0 x2)) else (none)) else (none))))
def impl_tidy.j1 : Nat → List Int → Int → Option (List Int)
 | 0, _, _ => none
 | k + 1, x0, x2 => impl_tidy.l1 k x0 x2 (x0.length : Int) 0
def impl_tidy.l1 : Nat → List Int → Int → Int → Int → Option (List Int)
 | 0, _, _, _, _ => none
 | k + 1, x0, x2, x27, x28 => if x28 < x27 then (if 0 ≤ x28 then (if x28 < (x0.length : Int) then (if x2 = 0 then (none) else (impl_tidy.l1 k (x0.set (x28 : Int).toNat (wrap64 (Int.tdiv (rd x0 x28) x2))) x2 x27 (wrap64 (x28 + 1)))) else (none)) else (none)) else (some x0)
end
def impl_tidy.f (k : Nat) (l0 : List Int) : Option (List Int) := impl_tidy.l0 k l0 0 l0 (l0.length : Int) 0
set_option maxHeartbeats 8000000 in
set_option maxRecDepth 100000 in
theorem impl_tidy.calls (k : Nat) (P0_ : Nat → Prop) (u9000_ : Value) (l0 : List Int) (r : List Int) (w0 w : World) (hB : Below w0.heap.size w0 w) (ho0 : Kd.R (Kd.int .i64) 3 w w0.heap.size P0_ u9000_ l0) (h : impl_tidy.f k l0 = some r) :
 Calls Try.prog 105 #[u9000_] w fun e w' => e = .returned (.tuple #[]) ∧ Kd.R (Kd.int .i64) 3 w' w0.heap.size (fun k_ => (P0_ k_ ∨ w.heap.size ≤ k_)) u9000_ r ∧ Below w0.heap.size w0 w' ∧ Kept w w' (fun k_ => P0_ k_) := by
 have HO0:=aM (show Kd.R (Kd.int .i64) 3 w w0.heap.size (fun k_=>(P0_ k_∨w.heap.size≤k_)) u9000_ l0 from Kd.R_mono ho0 (fun k_ hk=>(.inl hk)));have HK:=aM (Kept.refl w (fun k_=>P0_ k_));have HW0:=aM hB.size;have HB:=aM hB;clear hB;have H:(impl_tidy.l0 k l0 0 l0 (l0.length:Int) 0)=some r:=h;clear h;have H':=aM H;clear H;obtain ⟨Ao2,co2,eo2⟩:=Kd.R_slice HO0.out;subst eo2;go_enter Try.func105,Try.ntmps105;go_wp2;go_loopg [2,8] k (fun kq v2 v8 w'=>∃(x2_1:Int) (x8_1:Int),v2 = .int .i64 x2_1∧v8 = .int .i64 x8_1∧Aside0 (impl_tidy.l0 kq l0 x2_1 l0 (l0.length:Int) x8_1=some r)∧Aside0 (kq≤k)∧Aside0 (Kd.R (Kd.int .i64) 3 w' w0.heap.size (fun k_=>(P0_ k_∨w.heap.size≤k_)) (.slice Ao2 l0.length co2) l0)∧Aside0 (Kd.R (Kd.int .i64) 3 w' w0.heap.size (fun k_=>(P0_ k_∨w.heap.size≤k_)) (.slice Ao2 l0.length co2) l0)∧Aside0 (Kept w w' (fun k_=>P0_ k_))∧Aside0 (Below w0.heap.size w0 w'));(case atStart=>exact ⟨(0),(0),zt,zt,H',⟨Nat.le_refl _⟩,⟨zr HO0.out⟩,⟨zr HO0.out⟩,⟨zp HK.out⟩,⟨zb HB.out⟩⟩)
 case round=>
  clear H';(try clear c1);(try clear p2);obtain ⟨x2_1,x8_1,rfl,rfl,HA,HK1,HO_0,HO_6,HK,HB⟩:=hrel;cases gk with
  | zero=>exact absurd HA.out (by simp [impl_tidy.l0])
  | succ k1=>
   have H:=HA.out;clear HA;simp only [impl_tidy.l0] at H;by_cases c3:x8_1<(l0.length:Int)
   ·rw [if_pos c3] at H;have c3b0:decide (x8_1<(l0.length:Int))=true:=decide_eq_true c3;clear c3;obtain ⟨c4b0,H⟩:=iN H;obtain ⟨c5b0,H⟩:=iN H;obtain ⟨t122,A6,H⟩:=bz H;have H':=aM H;clear H;have p121:0≤(x8_1:Int):=zd;have q121:x8_1<(l0.length:Int):=zd;obtain ⟨ad121,e121,hx121_0⟩:=Kd.at_int (Kd.R_reads' HO_6.out).2.2 x8_1 p121 q121;cases e121;replace p121:=eq_true p121;replace q121:=eq_true q121;go_wp2_with (first|((with_reducible refine gate_callee (f:=60) rfl ?_);refine gm (some 14) Try.func60 #[.int .i64 x2_1,.int .i64 (rd l0 x8_1)] ?_;(with_reducible refine (impl_gcd.calls k1 x2_1 (rd l0 x8_1) t122 _ A6.out).mono ?_);rintro e w' ⟨rfl,⟨nd,rfl⟩⟩;refine ⟨_,rfl,?_⟩));go_roundg k1;(case measure=>have:=HK1.out;omega);(case rel=>exact ⟨(t122),(wrap64 (x8_1+1)),zt,zt,H',⟨by have:=HK1.out;omega⟩,⟨zr HO_0.out⟩,⟨zr HO_6.out⟩,⟨zp HK.out⟩,⟨zb HB.out⟩⟩)
   ·rw [if_neg c3] at H;have c3b0:decide (x8_1<(l0.length:Int))=false:=decide_eq_false c3;clear c3;by_cases c7:x2_1=0
    ·rw [if_pos c7] at H;have c7b0:(x2_1 == 0)=true:=beq_iff_eq.mpr c7;have c7b1:(x2_1 != 0)=false:=bne_eq_false_iff_eq.mpr c7;clear c7;obtain rfl:=Option.some.inj H;go_wp2;(first|go_end0|((try simp only [Exit.inBlock,Exit.then]);refine bodyPost_ret (results_none rfl _ _ _) rfl ?_));exact ⟨by first|rfl|(simp [errW_none,errW_some]<;>rfl)|(simp [*,errW_none,errW_some]<;>rfl),zr HO_0.out,zb HB.out,zp HK.out⟩
    ·rw [if_neg c7] at H;have c7b0:(x2_1 == 0)=false:=beq_eq_false_iff_ne.mpr c7;have c7b1:(x2_1 != 0)=true:=bne_iff_ne.mpr c7;obtain ⟨t123,A8,H⟩:=bz H;obtain ⟨c9b0,H⟩:=iN H;obtain ⟨c10b0,H⟩:=iN H;have HC11:=aM H;clear H;go_upto_if 23 with (first|((with_reducible refine gate_callee (f:=59) rfl ?_);refine gm (some 20) Try.func59 #[.slice Ao2 l0.length co2] ?_;(with_reducible refine (impl_lead.calls k1 _ _ l0 t123 _ ?side1 ?side2 A8.out).mono ?_);(case side1=>exact zc (Kd.R_reads' HO_0.out).2.2);(case side2=>exact (Kd.R_reads' HO_0.out).2.1);rintro e w' ⟨rfl,⟨nd,rfl⟩⟩;refine ⟨_,rfl,?_⟩;have p124:0≤(t123:Int):=zd;have q124:t123<(l0.length:Int):=zd;obtain ⟨ad124,e124,hx124_0⟩:=Kd.at_int (Kd.R_reads' HO_0.out).2.2 t123 p124 q124;cases e124;replace p124:=eq_true p124;replace q124:=eq_true q124))
     (try simp only [Act.put,qa,qz,qs]);go_cut [2] (fun v2 wc=>∃(kq:Nat) (x2_10:Int),v2 = .int .i64 x2_10∧Aside0 (impl_tidy.j1 kq l0 x2_10=some r)∧Aside0 (kq≤k1)∧Aside0 (Kd.R (Kd.int .i64) 3 wc w0.heap.size (fun k_=>(P0_ k_∨w.heap.size≤k_)) (.slice (some ad124) l0.length co2) l0)∧Aside0 (Kept w wc (fun k_=>P0_ k_))∧Aside0 (Below w0.heap.size w0 wc))
     case first=>
      have H:=HC11.out;clear HC11;by_cases c12:(rd l0 t123)<0
      ·rw [if_pos c12] at H;have c12b0:decide ((rd l0 t123)<0)=true:=decide_eq_true c12;clear c12;(first|rw [c12b0]|(simp only [i64_w,i32_w];rw [c12b0])|skip);have H':=aM H;clear H;go_wp2;go_meet;(case rel=>exact ⟨_,(wrap64 (-x2_1)),zt,H',⟨by have:=HK1.out;first|omega|exact Nat.le_refl _⟩,⟨zr HO_0.out⟩,⟨zp HK.out⟩,⟨zb HB.out⟩⟩)
      ·rw [if_neg c12] at H;have c12b0:decide ((rd l0 t123)<0)=false:=decide_eq_false c12;clear c12;(first|rw [c12b0]|(simp only [i64_w,i32_w];rw [c12b0])|skip);have H':=aM H;clear H;go_wp2;go_meet;(case rel=>exact ⟨_,(x2_1),zt,H',⟨by have:=HK1.out;first|omega|exact Nat.le_refl _⟩,⟨zr HO_0.out⟩,⟨zp HK.out⟩,⟨zb HB.out⟩⟩)
     case rest=>
      clear HC11;(try clear c1);(try clear p1);(try clear q1);(try clear hx1);(try clear p2);(try clear c3);(try clear c3b0);(try clear c4);(try clear c4b0);(try clear c5);(try clear c5b0);(try clear c6);(try clear p6);(try clear c7);(try clear c7b0);(try clear c7b1);(try clear c9);(try clear c9b0);(try clear c10);(try clear c10b0);(try clear c12);(try clear c12b0);(try clear p12);(try clear q12);(try clear hx12);(try clear hx121_0);(try clear hx124_0);(try clear p121);(try clear p124);(try clear p2);(try clear q121);(try clear q124);obtain ⟨kq,x2_10,rfl,HA,HJ10,HO_0,HK,HB⟩:=hcut;cases kq with
      | zero=>exact absurd HA.out (by simp [impl_tidy.j1])
      | succ kj10=>
       have H:=HA.out;clear HA;simp only [impl_tidy.j1] at H;have H':=aM H;clear H;go_wp2;go_loopg [28] kj10 (fun kq v28 w'=>∃(x0_3:List Int) (x28_3:Int),v28 = .int .i64 x28_3∧Aside0 (impl_tidy.l1 kq x0_3 x2_10 (l0.length:Int) x28_3=some r)∧Aside0 (kq≤kj10)∧Aside0 (Kd.R (Kd.int .i64) 3 w' w0.heap.size (fun k_=>(P0_ k_∨w.heap.size≤k_)) (.slice (some ad124) l0.length co2) x0_3)∧Aside0 (Kept w w' (fun k_=>P0_ k_))∧Aside0 (Below w0.heap.size w0 w'));(case atStart=>exact ⟨(l0),(0),zt,H',⟨Nat.le_refl _⟩,⟨zr HO_0.out⟩,⟨zp HK.out⟩,⟨zb HB.out⟩⟩)
       case round=>
        clear H';(try clear c1);(try clear p1);(try clear q1);(try clear hx1);(try clear p2);(try clear c3);(try clear c3b0);(try clear c4);(try clear c4b0);(try clear c5);(try clear c5b0);(try clear c6);(try clear p6);(try clear c7);(try clear c7b0);(try clear c7b1);(try clear c9);(try clear c9b0);(try clear c10);(try clear c10b0);(try clear c12);(try clear c12b0);(try clear p12);(try clear q12);(try clear hx12);(try clear hx121_0);(try clear hx124_0);(try clear p1);(try clear p12);(try clear p121);(try clear p124);(try clear p2);(try clear p6);(try clear q1);(try clear q12);(try clear q121);(try clear q124);obtain ⟨x0_3,x28_3,rfl,HA,HK3,HO_0,HK,HB⟩:=hrel;have hl0_3:=(Kd.R_reads' HO_0.out).1;rw [hl0_3] at HO_0;(try simp only [hl0_3]);cases gk with
        | zero=>exact absurd HA.out (by simp [impl_tidy.l1])
        | succ k3=>
         have H:=HA.out;clear HA;simp only [impl_tidy.l1] at H;by_cases c13:x28_3<(l0.length:Int)
         ·rw [if_pos c13] at H;have c13b0:decide (x28_3<(l0.length:Int))=true:=decide_eq_true c13;clear c13;obtain ⟨c14b0,H⟩:=iN H;obtain ⟨c15b0,H⟩:=iN H;by_cases c16:x2_10=0
          ·rw [if_pos c16] at H;exact absurd H (by simp)
          ·rw [if_neg c16] at H;have c16b0:(x2_10 == 0)=false:=beq_eq_false_iff_ne.mpr c16;have c16b1:(x2_10 != 0)=true:=bne_iff_ne.mpr c16;obtain ⟨y126,hy126⟩:∃y_:List Int,y_=(x0_3.set (x28_3:Int).toNat (wrap64 (Int.tdiv (rd x0_3 x28_3) x2_10))):=⟨_,rfl⟩;replace H:(impl_tidy.l1 k3 y126 x2_10 (l0.length:Int) (wrap64 (x28_3+1)))=some r:=(by first|(rw [hy126];with_reducible exact H)|(have H2_:=(Option.bind_some _ _).symm.trans H;rw [hy126];with_reducible exact H2_)|(have H2_:=(Option.bind_some _ _).symm.trans H;with_reducible exact H2_)|with_reducible exact H|(rw [hy126];exact H)|exact H);have Ny126:=aM hy126;clear hy126;have H':=aM H;clear H;have p125:0≤(x28_3:Int):=zd;have q125:x28_3<(x0_3.length:Int):=zd;obtain ⟨ad125,e125,hx125_0⟩:=Kd.at_int (Kd.R_reads' HO_0.out).2.2 x28_3 p125 q125;obtain rfl:ad124=ad125:=(by injection e125);replace p125:=eq_true p125;replace q125:=eq_true q125;have p17:0≤(x28_3:Int):=zd;have q17:(x28_3:Int)<((x0_3.length:Int):Int):=zd;obtain ⟨go17,co17,eo17,gb17,gl17,cl17,HG17⟩:=Kd.R_form HO_0.out (by omega);(first|cases eo17|(injection eo17 with ea_ en_ ec_;(first|subst ea_|(injection ea_ with ea_;subst ea_));subst ec_;clear en_));have GB17:=aM gb17;have GG17:=aM HG17;clear gb17 gl17 HG17;have HMgo17:=aM (show (P0_ go17∨w.heap.size≤go17) from (HO_0.out.1 _ rfl));(first|simp only [add_plain] at hx124_0|skip);(first|simp only [add_plain] at hx125_0|skip);obtain ⟨hx17_0,hf17_0⟩:=Kd.R_celln 0 HO_0.out (x28_3:Int) p17 q17;replace p17:=eq_true p17;replace q17:=eq_true q17;have HP18:=Kd.R_putg HO_0.out (x28_3:Int) (wrap64 (Int.tdiv (rd x0_3 x28_3) x2_10));go_wp2_with (first|((with_reducible refine gate_store (t:=3) (p:=37) rfl ?_);refine store_event (t:=3) (p:=37) (v:=?vo_w19) (w1:=(wr.setCell ⟨go17,(x28_3:Int).toNat,none⟩ (.int .i64 (wrap64 (Int.tdiv (rd x0_3 x28_3) x2_10))))) ?hg ?ho ?hn ?hr ?_;(case ho=>rfl);(case hg=>rfl);(case hn=>rfl);(case hr=>first|(go_simp;done)|(go_simp;rfl));intro w19 hw;have hg:wr.grownBy w19 (some go17):=(by rw [hw];exact HP18.2);have hp_:Kd.R (Kd.int .i64) 3 w19 w0.heap.size (fun k_=>(P0_ k_∨w.heap.size≤k_)) (.slice (some ⟨go17,0,none⟩) x0_3.length co2) y126:=(by rw [hw,Ny126.out];exact HP18.1);clear HP18;replace HB:=aM ((by rw [hw];exact below_set (HB.out) GB17.out:Below w0.heap.size w0 w19));replace HK:=aM (Kept.of_grown (S:=(fun k_=>P0_ k_)) hg (zp HK.out) (fun k_ e_=>(HO_0.out.1 k_ e_)));replace HO_0:=aM (hp_);clear hg hw hp_));(try simp only [← hl0_3]);go_roundg k3;(case measure=>have:=HK1.out;have:=HJ10.out;have:=HK3.out;omega);(case rel=>exact ⟨(y126),(wrap64 (x28_3+1)),zt,H',⟨by have:=HK1.out;have:=HJ10.out;have:=HK3.out;omega⟩,⟨by (try simp only [hl0_3]);(with_reducible repeat (first|apply Kd.R_alloc|apply Kd.R_drewN|apply Kd.R_drew));exact HO_0.out⟩,⟨zp HK.out⟩,⟨zb HB.out⟩⟩)
         ·rw [if_neg c13] at H;have c13b0:decide (x28_3<(l0.length:Int))=false:=decide_eq_false c13;(try (have c13b1:decide (x28_3<(x0_3.length:Int))=false:=by have h5_:=hl0_3;rw [show (x0_3.length:Int)=(l0.length:Int) by omega];exact c13b0));clear c13;obtain rfl:=Option.some.inj H;go_wp2;(first|go_end0|((try simp only [Exit.inBlock,Exit.then]);refine bodyPost_ret (results_none rfl _ _ _) rfl ?_));exact ⟨by first|rfl|(simp [errW_none,errW_some]<;>rfl)|(simp [*,errW_none,errW_some]<;>rfl),(by first|exact (zr HO_0.out)|(simp only [hl0_3];exact (zr HO_0.out))),zb HB.out,zp HK.out⟩
theorem slices_IndexFunc_int_int_106.goesV {P : Program} {ops : Array Oper} {Q : Exit → Act → World → Prop} {rest : List Oper} {oi : Oper} {a : Act} {w : World} (N : Option Tmp) (hd : oi.dst = N) (hg : oi.guard = none) {f : FuncId} {fn : Func} {x : Operand} {asx : Array Operand} {ts : Array TypeId} {lb : Array Value} (hf : P.funcs[f]? = some fn) (hname : (fn.name == "runtime.NumGoroutine") = false) (hb : fn.body.isSome = true) (args : Array Value)
  (hop : oi.op = .call { callee := .value x, args := asx, argTypes := ts }) (hx : a.eval x = .func (.func f) #[] lb) (hargs : asx.map a.eval ++ lb = args)
  (h : Calls P f args w fun e w' => ∃ v, e = .returned v ∧ wpList P ops Q rest (a.put N v) w') : wpList P ops Q (oi :: rest) a w := by
 refine wpList_plain hg fun K hK => ?_
 have he := enters_ hf hname hb args w
 have hx' : a.eval x = .func (.func f) #[] lb := hx
 have hargs' : asx.map a.eval ++ lb = args := hargs
 have hrun : (execOp a.eval oi).run P w = .ok (.enter f args) w := by
  unfold execOp
  simp [hop, resolve, Deferred.ofValue, invoke, hx', hargs', he]
 unfold Oper.wp
 rw [hrun, Oper.upon_enter]
 refine h.mono fun e w'' hh => ?_
 obtain ⟨v, rfl, hk⟩ := hh
 subst hd
 exact hK _ _ hk
theorem slices_IndexFunc_int_int_106.pred (k : Nat) (A : Option Addr) (c : Nat) (l : List Int) (t x : Int) (B : Nat) (w : World) (hr : Kd.C (Kd.int .i64) w A l.length l) (hc : l.length ≤ c) (hB : w.cell? ⟨B, 0, none⟩ = some (.int .i64 x)) (h : impl_lead.f k l = some t) :
  Calls Try.prog 107 #[.slice A l.length c, .pointer (some ⟨B, 0, none⟩)] w fun e w' => e = .returned (.bool (t == x)) ∧ Drawn0 w w' := by
 have HR := Aside0.mk hr
 have HC := Aside0.mk hc
 have HH := Aside0.mk h
 clear hr hc h
 go_enter Try.func107, Try.ntmps107
 go_wp2
 go_quiet ((go_at_call 59;(with_reducible refine (impl_lead.calls k _ _ l t _ ?side1 ?side2 HH.out).mono ?_);(case side1 => repeat (first|exact HR.out|(with_reducible refine Kd.C_drewN ?_ _)|(with_reducible refine Kd.C_drew ?_)));(case side2 => exact HC.out);rintro e w' ⟨rfl, ⟨nd, rfl⟩⟩;(first|exact ⟨rfl, _, World.drewN_drewN _ _ _⟩|exact ⟨rfl, _, Eq.trans (World.drewN_drewN _ _ _) (congrArg (World.drewN _) (Nat.add_assoc _ _ _))⟩)))
 go_wp2
 go_ret
 exact ⟨by first|rfl|(simp;done)|(simp [*];done), by repeat (first|exact Drawn0.refl _|apply Drawn0.step)⟩
def slices_IndexFunc_int_int_106.l0 : Nat → List (List Int) → Int → Int → Int → Option (Int)
 | 0, _, _, _, _ => none
 | k + 1, x0, x1, x7, x8 => if x8 < x7 then (if 0 ≤ x8 then (if x8 < (x0.length : Int) then ((impl_lead.f k (rd_L1 x0 x8)).bind fun t148 => (if t148 = x1 then (some x8) else (slices_IndexFunc_int_int_106.l0 k x0 x1 x7 (wrap64 (x8 + 1))))) else (none)) else (none)) else (some (-1))
def slices_IndexFunc_int_int_106.f (k : Nat) (l0 : List (List Int)) (a1 : Int) : Option (Int) := slices_IndexFunc_int_int_106.l0 k l0 a1 (l0.length : Int) 0
set_option maxHeartbeats 8000000 in
set_option maxRecDepth 100000 in
theorem slices_IndexFunc_int_int_106.calls (k : Nat) (A0 : Option Addr) (c0 : Nat) (l0 : List (List Int)) (a1 : Int) (r : Int) (B_ : Nat) (w : World) (hB_ : w.cell? ⟨B_, 0, none⟩ = some (.int .i64 a1)) (hr0 : Kd.C (Kd.slice 3 (Kd.int .i64)) w A0 l0.length l0) (hc0 : l0.length ≤ c0) (h : slices_IndexFunc_int_int_106.f k l0 a1 = some r) :
 Calls Try.prog 106 #[.slice A0 l0.length c0, .func (.func 107) #[] #[.pointer (some ⟨B_, 0, none⟩)]] w fun e w' => e = .returned (.int .i64 r) ∧ Drawn0 w w' := by
 have HB_:=aM hB_;clear hB_;have HR0:=aM hr0;have HC0:=aM hc0;clear hr0 hc0;have H:(slices_IndexFunc_int_int_106.l0 k l0 a1 (l0.length:Int) 0)=some r:=h;clear h;have H':=aM H;clear H;go_enter Try.func106,Try.ntmps106;go_wp2;go_loopg [8] k (fun kq v8 w'=>∃(x8_1:Int),v8 = .int .i64 x8_1∧Aside0 (slices_IndexFunc_int_int_106.l0 kq l0 a1 (l0.length:Int) x8_1=some r)∧Aside0 (kq≤k)∧Drawn0 w w');(case atStart=>exact ⟨(0),zt,H',⟨Nat.le_refl _⟩,by repeat (first|exact Drawn0.refl _|apply Drawn0.step)⟩)
 case round=>
  clear H';(try clear c1);(try clear p2);obtain ⟨x8_1,rfl,HA,HK1,⟨m1,rfl⟩⟩:=hrel;cases gk with
  | zero=>exact absurd HA.out (by simp [slices_IndexFunc_int_int_106.l0])
  | succ k1=>
   have H:=HA.out;clear HA;simp only [slices_IndexFunc_int_int_106.l0] at H;by_cases c3:x8_1<(l0.length:Int)
   ·rw [if_pos c3] at H;have c3b0:decide (x8_1<(l0.length:Int))=true:=decide_eq_true c3;clear c3;obtain ⟨c4b0,H⟩:=iN H;obtain ⟨c5b0,H⟩:=iN H;obtain ⟨t148,A6,H⟩:=bz H;by_cases c7:t148=a1
    ·rw [if_pos c7] at H;have c7b0:(t148 == a1)=true:=beq_iff_eq.mpr c7;have c7b1:(t148 != a1)=false:=bne_eq_false_iff_eq.mpr c7;clear c7;obtain rfl:=Option.some.inj H;have p147:0≤(x8_1:Int):=zd;have q147:x8_1<(l0.length:Int):=zd;obtain ⟨ad147,A147_0,c147_0,e147,hx147_0,hl147_0,hi147_0⟩:=at_L1 HR0.out x8_1 p147 q147;cases e147;have HR147_0:=aM hi147_0;have HC147_0:=aM hl147_0;clear hi147_0 hl147_0;replace p147:=eq_true p147;replace q147:=eq_true q147;go_wp2_with ((with_reducible refine gate_dst (N:=16) rfl ?_);refine slices_IndexFunc_int_int_106.goesV (some 16) rfl rfl Try.func107 (by kernel_rfl) rfl #[.slice A147_0 (rd_L1 l0 x8_1).length c147_0,.pointer (some ⟨B_,0,none⟩)] rfl rfl (by (try simp only [List.map_toArray,List.map_cons,List.map_nil]);first|done|rfl) ?_;refine (slices_IndexFunc_int_int_106.pred k1 _ _ (rd_L1 l0 x8_1) t148 a1 B_ _ ?side1 ?side2 ?side3 A6.out).mono ?_;(case side1=>exact zc HR147_0.out);(case side2=>exact HC147_0.out);(case side3=>exact HB_.out);rintro e w_ ⟨rfl,⟨nd_,rfl⟩⟩;refine ⟨_,rfl,?_⟩);go_ret;exact ⟨zt,zz⟩
    ·rw [if_neg c7] at H;have c7b0:(t148 == a1)=false:=beq_eq_false_iff_ne.mpr c7;have c7b1:(t148 != a1)=true:=bne_iff_ne.mpr c7;have H':=aM H;clear H;have p147:0≤(x8_1:Int):=zd;have q147:x8_1<(l0.length:Int):=zd;obtain ⟨ad147,A147_0,c147_0,e147,hx147_0,hl147_0,hi147_0⟩:=at_L1 HR0.out x8_1 p147 q147;cases e147;have HR147_0:=aM hi147_0;have HC147_0:=aM hl147_0;clear hi147_0 hl147_0;replace p147:=eq_true p147;replace q147:=eq_true q147;go_wp2_with ((with_reducible refine gate_dst (N:=16) rfl ?_);refine slices_IndexFunc_int_int_106.goesV (some 16) rfl rfl Try.func107 (by kernel_rfl) rfl #[.slice A147_0 (rd_L1 l0 x8_1).length c147_0,.pointer (some ⟨B_,0,none⟩)] rfl rfl (by (try simp only [List.map_toArray,List.map_cons,List.map_nil]);first|done|rfl) ?_;refine (slices_IndexFunc_int_int_106.pred k1 _ _ (rd_L1 l0 x8_1) t148 a1 B_ _ ?side1 ?side2 ?side3 A6.out).mono ?_;(case side1=>exact zc HR147_0.out);(case side2=>exact HC147_0.out);(case side3=>exact HB_.out);rintro e w_ ⟨rfl,⟨nd_,rfl⟩⟩;refine ⟨_,rfl,?_⟩);go_roundg k1;(case measure=>have:=HK1.out;omega);(case rel=>exact ⟨(wrap64 (x8_1+1)),zt,H',⟨by have:=HK1.out;omega⟩,by repeat (first|exact Drawn0.refl _|apply Drawn0.step)⟩)
   ·rw [if_neg c3] at H;have c3b0:decide (x8_1<(l0.length:Int))=false:=decide_eq_false c3;clear c3;obtain rfl:=Option.some.inj H;go_wp2;go_ret;exact ⟨zt,zz⟩
def impl_reduceAny.l0 : Nat → Int → List Int → List Int → Int → Int → Int → Option (List Int)
 | 0, _, _, _, _, _, _ => none
 | k + 1, x9, x11, x15, x16, x66, x67 => if x67 < x66 then (if 0 ≤ x67 then (if x67 < (x15.length : Int) then (if 0 ≤ x9 then (if x9 < (x11.length : Int) then (if x67 < (x11.length : Int) then (impl_reduceAny.l0 k x9 x11 (x15.set (x67 : Int).toNat (wrap64 ((wrap64 ((rd x15 x67) * (rd x11 x9))) - (wrap64 ((rd x11 x67) * x16))))) x16 x66 (wrap64 (x67 + 1))) else (none)) else (none)) else (none)) else (none)) else (none)) else ((impl_tidy.f k x15).bind fun t154 => (some t154))
def impl_reduceAny.T26 : Bool × List (List Nat × List Nat) := (true, [([], []), ([], []), ([], []), ([], []), ([2, 3], [2, 3]), ([4], [4]), ([], []), ([], []), ([6, 7], [6, 7]), ([8], [8]), ([5, 9], [5, 9]), ([], []), ([], []), ([11, 12], [11, 12]), ([13], [13]), ([], []), ([14, 15], [14, 15]), ([10, 16], [10, 16]), ([0, 1, 0, 1, 2, 3, 4, 5, 6, 7, 8, 9, 10, 11, 12, 13, 14, 15, 16, 17], [0, 1]), ([18, 17, 0, 1, 2, 3, 4, 5, 6, 7, 8, 9, 10, 11, 12, 13, 14, 15, 16, 17], [17, 18])])
def impl_reduceAny.B26 : List Nat := [0, 0, 0, 0, 12, 28, 0, 0, 192, 448, 1020, 0, 0, 6144, 14336, 0, 63488, 131068, 262143, 524287]
theorem impl_reduceAny.tab26 : rtab .any (opsOf Try.f77 26) = impl_reduceAny.T26 := by kernel_rfl
theorem impl_reduceAny.bits26 : waitsOk impl_reduceAny.T26.2 impl_reduceAny.B26 = true := by kernel_rfl
def impl_reduceAny.mapO (f : List Int → Option (List Int)) : List (List Int) → Option (List (List Int))
 | [] => some []
 | x :: l => (f x).bind fun y => (impl_reduceAny.mapO f l).bind fun m => some (y :: m)
theorem impl_reduceAny.mapO_some (f : List Int → Option (List Int)) : ∀ (l m : List (List Int)), impl_reduceAny.mapO f l = some m → l.length = m.length ∧ ∀ (i : Nat) (x : List Int), l[i]? = some x → ∃ y, m[i]? = some y ∧ f x = some y
|[], m, h => by
  obtain rfl := Option.some.inj h
  exact ⟨rfl, fun i x hx => by simp at hx⟩
|x :: l, m, h => by
  unfold impl_reduceAny.mapO at h
  obtain ⟨y, hy, h⟩ := Option.bind_eq_some_iff.1 h
  obtain ⟨m', hm, h⟩ := Option.bind_eq_some_iff.1 h
  obtain rfl := Option.some.inj h
  obtain ⟨h1, h2⟩ := impl_reduceAny.mapO_some f l m' hm
  refine ⟨by simp [h1], fun i z hz => ?_⟩
  cases i with
 |zero =>
   simp only [List.getElem?_cons_zero] at hz
   cases hz
   exact ⟨y, by simp, hy⟩
 |succ i =>
   simp only [List.getElem?_cons_succ] at hz ⊢
   exact h2 i z hz
theorem impl_reduceAny.mapO_append (f : List Int → Option (List Int)) : ∀ (l m l' m' : List (List Int)), impl_reduceAny.mapO f l = some m → impl_reduceAny.mapO f l' = some m' → impl_reduceAny.mapO f (l ++ l') = some (m ++ m')
 | [], m, l', m', h, h' => by
  obtain rfl := Option.some.inj h
  exact h'
 | x :: l, m, l', m', h, h' => by
  unfold impl_reduceAny.mapO at h
  obtain ⟨y, hy, h⟩ := Option.bind_eq_some_iff.1 h
  obtain ⟨m1, hm, h⟩ := Option.bind_eq_some_iff.1 h
  obtain rfl := Option.some.inj h
  show impl_reduceAny.mapO f (x :: (l ++ l')) = _
  unfold impl_reduceAny.mapO
  rw [hy, impl_reduceAny.mapO_append f l m1 l' m' hm h']
  rfl
def impl_reduceAny.row (k : Nat) (a9 : Int) (l11 l15 : List Int) : Option (List Int) := if 0 ≤ a9 then (if a9 < (l15.length : Int) then (if (rd l15 a9) = 0 then (some l15) else (impl_reduceAny.l0 k a9 l11 l15 (rd l15 a9) (l15.length : Int) 0)) else (none)) else (none)
def impl_reduceAny.lp (k : Nat) : Nat → Nat → List (List Int) → List (List Int) → Option (List (List Int))
 | 0, _, _, Y => some Y
 | d + 1, c, X, Y => (slices_IndexFunc_int_int_106.f k X (c : Int)).bind fun i => if i < 0 then impl_reduceAny.lp k d (c + 1) X Y else if i < (X.length : Int) then (impl_reduceAny.mapO (impl_reduceAny.row k (c : Int) (X.getD i.toNat [])) (X.eraseIdx i.toNat)).bind fun X' => (impl_reduceAny.mapO (impl_reduceAny.row k (c : Int) (X.getD i.toNat [])) Y).bind fun Y' => impl_reduceAny.lp k d (c + 1) X' (Y' ++ [X.getD i.toNat []]) else none
def impl_reduceAny.f (k : Nat) (l0 : List (List Int)) (a1 : Int) : Option (List (List Int)) := (impl_copyRows.f k l0).bind fun m => if 1 ≤ a1 ∧ a1 ≤ 1000000 ∧ m.length ≤ 1000000 ∧ (∀ x ∈ m, (x.length : Int) = a1) then (impl_reduceAny.mapO (impl_tidy.f k) m).bind fun X => impl_reduceAny.lp k a1.toNat 0 X [] else none
theorem impl_reduceAny.open_ {k : Nat} {l0 : List (List Int)} {a1 : Int} {r : List (List Int)} (h : impl_reduceAny.f k l0 a1 = some r) :
  ∃ (n : Nat) (m X : List (List Int)), a1 = (n : Int) ∧ 0 < n ∧ n ≤ 1000000 ∧ impl_copyRows.f k l0 = some m ∧ (∀ x ∈ m, x.length = n) ∧ m.length ≤ 1000000 ∧ impl_reduceAny.mapO (impl_tidy.f k) m = some X ∧ impl_reduceAny.lp k n 0 X [] = some r := by
 unfold impl_reduceAny.f at h
 obtain ⟨m, hm, h⟩ := Option.bind_eq_some_iff.1 h
 split at h
 ·rename_i hc
  obtain ⟨X, hX, h⟩ := Option.bind_eq_some_iff.1 h
  exact ⟨a1.toNat, m, X, by omega, by omega, by omega, hm, fun x hx => by have := hc.2.2.2 x hx; omega, hc.2.2.1, hX, h⟩
 ·cases h
open YtojkepidkmkmpaaRed in
def impl_reduceAny.Inv (k n : Nat) (r : List (List Int)) (w w' : World) (c : Nat) (vR vO : Value) : Prop :=
 ∃ ps qs X Y, impl_reduceAny.lp k (n - c) c X Y = some r ∧ Spine w' w.heap.size n vR ps ∧ Spine w' w.heap.size n vO qs ∧ RowsAre w' w.heap.size n (ps ++ qs) (X ++ Y) ∧ ps.length = X.length ∧ ((ps ++ qs).map (·.1)).Nodup ∧ (∀ k, vR.ownBlock = some k → vO.ownBlock ≠ some k) ∧ ps.length ≤ 1000000 ∧ qs.length ≤ c ∧ Below w.heap.size w w'
open YtojkepidkmkmpaaRed in
set_option maxHeartbeats 8000000 in
set_option maxRecDepth 100000 in
theorem impl_reduceAny.calls (k : Nat) (A0 : Option Addr) (c0 : Nat) (l0 : List (List Int)) (a1 : Int) (r : List (List Int)) (w : World) (hr0 : Kd.C (Kd.slice 3 (Kd.int .i64)) w A0 l0.length l0) (hc0 : l0.length ≤ c0) (h : impl_reduceAny.f k l0 a1 = some r) :
  Calls Try.prog 77 #[.slice A0 l0.length c0, .int .i64 a1] w fun e w' => ∃ v0_ : Value, e = .returned (v0_) ∧ Kd.S (Kd.slice 3 (Kd.int .i64)) 23 w' w.heap.size (fun _ => True) v0_ r ∧ Below w.heap.size w w' := by
 have HR0 := Aside0.mk hr0
 have HC0 := Aside0.mk hc0
 clear hr0 hc0
 have HB := Aside0.mk (Below.refl w.heap.size w)
 obtain ⟨n, m, X1, rfl, hn0, hn1, hcp, hmn, hml, hm, hL⟩ := impl_reduceAny.open_ h
 clear h
 have ACP := Aside0.mk hcp
 have HN := Aside0.mk (And.intro hn0 hn1)
 have HMN := Aside0.mk (And.intro hmn hml)
 have HM := Aside0.mk (impl_reduceAny.mapO_some _ _ _ hm)
 have HL := Aside0.mk hL
 clear hcp hmn hm hL hn0 hn1 hml
 go_enter Try.func77, Try.ntmps77
 go_wp2_with (first|((with_reducible refine gate_callee (f := 104) rfl ?_);refine goesL_ (some 19) rfl rfl Try.func104 (by kernel_rfl) rfl #[.slice A0 l0.length c0] rfl (by (try simp only [List.map_toArray, List.map_cons, List.map_nil]);first|done|rfl|(simp only [List.length_drop, List.length_take];rfl)) ?_;(with_reducible refine (impl_copyRows.calls k _ _ l0 m _ ?side1 ?side2 ACP.out).mono ?_);(case side1 => repeat (first|exact HR0.out|(with_reducible refine Kd.C_alloc ?_ _)|(with_reducible refine Kd.C_drewN ?_ _)|(with_reducible refine Kd.C_drew ?_)));(case side2 => exact HC0.out);rintro e w4 ⟨v150, rfl, ho0, hb⟩;obtain ⟨ps0, hsp, hra, hnd⟩ := of_S ho0 HN.out.1 HMN.out.1;obtain ⟨A1, c1, e1, hle⟩ := hsp.form;subst e1;refine ⟨_, rfl, ?_⟩;have HSP := Aside0.mk hsp;have HRA := Aside0.mk hra;have HND := Aside0.mk hnd;have HLE := Aside0.mk hle;clear HB;have HB := Aside0.mk hb;clear ho0 hsp hra hnd hb hle))
 have HRA0 := HRA
 go_loopg [22] (ps0.length + 1) (fun kq v22 w' => ∃ i : Nat, v22 = .int .i64 (i : Int) ∧ Aside0 (i ≤ ps0.length ∧ kq + i = ps0.length + 1) ∧ Aside0 (RowsAre w' w.heap.size n ps0 (mix m X1 i)) ∧ Aside0 (Kept w4 w' (fun k_ => ∃ p ∈ ps0, k_ = p.1)) ∧ Aside0 (Below w.heap.size w w'))
 case atStart => exact ⟨0, by first|rfl|(simp;done), ⟨by omega, by omega⟩, ⟨by rw [mix_zero];exact HRA.out⟩, ⟨Kept.refl _ _⟩, HB⟩
 case round =>
  clear HRA HB
  obtain ⟨i, rfl, HI, HRA, HK, HB⟩ := hrel
  by_cases hi : i < ps0.length
  ·have hi2 : i < 1000000 := by have := HRA0.out.len;have := HMN.out.2;omega
   have HSPr := Aside0.mk (HSP.out.kept HK.out (fun k_ hk_ ⟨p_, hp_, e_⟩ => by
    obtain ⟨x_, hx_⟩ := (RowsAre.kept HRA0.out (Kept.refl w4 (fun _ => False)) (fun _ _ h => h)).mem hp_
    exact HSP.out.apart hx_ (by rw [hk_, e_])))
   obtain ⟨ad, p, eA, hp, hcell⟩ := HSPr.out.atN i hi
   subst eA
   obtain ⟨x, hx, hrow⟩ := HRA.out.get hp
   have hxm : m[i]? = some x := by
    rw [mix_get _ _ _ _ HM.out.1, if_neg (by omega)] at hx
    exact hx
   obtain ⟨y, hy, hf⟩ := HM.out.2 i x hxm
   have AT := Aside0.mk hf
   have HY := Aside0.mk hy
   have HP := Aside0.mk hp
   have HROW := Aside0.mk hrow
   clear hx hxm hy hf hp hrow
   go_wp2_with (first|((with_reducible refine gate_callee (f := 105) rfl ?_);refine goesL_ (some 27) rfl rfl Try.func105 (by kernel_rfl) rfl #[.slice (some ⟨p.1, 0, none⟩) n p.2] rfl (by (try simp only [List.map_toArray, List.map_cons, List.map_nil]);first|done|rfl|(simp only [List.length_drop, List.length_take];rfl)) ?_;(with_reducible refine (impl_tidy.calls k (fun k_ => k_ = p.1) (.slice (some ⟨p.1, 0, none⟩) n p.2) x y w _ ?side1 ?side2 AT.out).mono ?_);(case side1 => exact HB.out);(case side2 => exact HROW.out);rintro e w32 ⟨rfl, hy0, hb, hkp⟩;refine ⟨_, rfl, ?_⟩;have HR2 := Aside0.mk (RowsAre.step HM.out.1 HRA.out HND.out HP.out HY.out hkp (Kd.R_reok rfl hy0 (fun k_ e_ => (Option.some.inj e_).symm)));have HK2 := Aside0.mk (Kept.then_ HK.out hkp (fun k_ hs_ => Or.inl ⟨p, List.mem_of_getElem? HP.out, hs_⟩));have HB2 := Aside0.mk hb;clear hy0 hb hkp))
   go_roundg (ps0.length - i)
   case measure => have := HI.out;omega
   case rel => exact ⟨i + 1, by first|go_num|rfl|(simp;done)|(simp [*];done), ⟨by omega, by omega⟩, HR2, HK2, HB2⟩
  ·have HSPr := Aside0.mk (HSP.out.kept HK.out (fun k_ hk_ ⟨p_, hp_, e_⟩ => by
    obtain ⟨x_, hx_⟩ := (RowsAre.kept HRA0.out (Kept.refl w4 (fun _ => False)) (fun _ _ h => h)).mem hp_
    exact HSP.out.apart hx_ (by rw [hk_, e_])))
   have HINV : Aside0 (impl_reduceAny.Inv k n r w wr 0 (.slice A1 ps0.length c1) (.slice none 0 0)) := ⟨ps0, [], X1, [], HL.out, HSPr.out, Spine.nil _ _ _, by
    have h1 := HRA.out
    have h2 : i = m.length := by have := HI.out;have := HRA0.out.len;omega
    rw [h2, mix_all _ _ HM.out.1] at h1
    simpa using h1, by have := HRA0.out.len;have := HM.out.1;omega, by simpa using HND.out, by simp [Value.ownBlock], by have := HRA0.out.len;have := HMN.out.2;omega, by simp, HB.out⟩
   have HN1 := HN.out.1
   have HN2 := HN.out.2
   go_wp2
   clear HSPr HRA HK HB HI HRA0 HSP HND HLE HMN HM HL ACP HR0 HC0 hi
   go_loopg [5, 8, 30] (n + 1) (fun kq v5 v8 v30 w' => ∃ c : Nat, v30 = .int .i64 (c : Int) ∧ Aside0 (c ≤ n ∧ kq + c = n + 1) ∧ Aside0 (impl_reduceAny.Inv k n r w w' c v5 v8))
   case atStart => exact ⟨0, by first|rfl|(simp;done), ⟨by omega, by omega⟩, HINV⟩
   case round =>
    clear HINV
    obtain ⟨c, rfl, HC, HINV⟩ := hrel
    obtain ⟨ps, qs, X, Y, hlp, hsp, hso, hra, hlen, hnd, hvv, hps, hqs, hb⟩ := HINV.out
    clear HINV
    obtain ⟨A5, c5, e5, hl5⟩ := hsp.form
    subst e5
    obtain ⟨A8, c8, e8, hl8⟩ := hso.form
    subst e8
    have HSP := Aside0.mk hsp
    have HSO := Aside0.mk hso
    have HRA := Aside0.mk hra
    have HLEN := Aside0.mk hlen
    have HND := Aside0.mk hnd
    have HVV := Aside0.mk hvv
    have HB := Aside0.mk hb
    have HCAP := Aside0.mk (And.intro hl5 hl8)
    clear hsp hso hra hlen hnd hvv hb hl5 hl8
    by_cases hc : c < n
    ·obtain ⟨d, hd⟩ : ∃ d, n - c = d + 1 := ⟨n - c - 1, by omega⟩
     rw [hd] at hlp
     unfold impl_reduceAny.lp at hlp
     obtain ⟨t, ht, hlp⟩ := Option.bind_eq_some_iff.1 hlp
     have AT := Aside0.mk ht
     have HD := Aside0.mk hd
     clear ht hd
     have hc2 : c < 1000000 := by omega
     have HXC := Aside0.mk (to_C HSP.out (HRA.out.left HLEN.out) (by have h := HND.out;rw [List.map_append] at h;exact (List.nodup_append.1 h).1))
     have H106 : Aside0 (Calls Try.prog 106 #[.slice A5 ps.length c5, .func (.func 107) #[] #[.pointer (some ⟨wr.heap.size, 0, none⟩)]] (wr.alloc (.cells #[.int .i64 (c : Int)] 3)) fun e w' => e = .returned (.int .i64 t) ∧ Drawn0 (wr.alloc (.cells #[.int .i64 (c : Int)] 3)) w') := ⟨by
      have hcap := HCAP.out.1
      rw [HLEN.out] at hcap ⊢
      exact slices_IndexFunc_int_int_106.calls k _ _ X (c : Int) t wr.heap.size _ (cell_new _ _ _) (Kd.C_alloc HXC.out _) hcap AT.out⟩
     by_cases htn : t < 0
     ·rw [if_pos htn] at hlp
      have HL := Aside0.mk hlp
      clear hlp
      have c1b0 : decide (t < 0) = true := decide_eq_true htn
      go_wp2_with fail
      refine (H106.out).mono ?_
      rintro e W2 ⟨rfl, hdr⟩
      have HK2 := Aside0.mk (drawn_kept hdr (fun _ => False))
      have HB2 := Aside0.mk (drawn_below hdr HB.out)
      clear hdr
      go_wp2
      go_roundg (n - c)
      case measure => have := HC.out;omega
      case rel =>
       refine ⟨c + 1, by first|go_num|rfl|(simp;done)|(simp [*];done), ⟨by omega, by omega⟩, ⟨ps, qs, X, Y, ?_, HSP.out.kept HK2.out (fun _ _ h => h), HSO.out.kept HK2.out (fun _ _ h => h), HRA.out.kept HK2.out (fun _ _ h => h), HLEN.out, HND.out, HVV.out, hps, by omega, HB2.out⟩⟩
       have := HD.out
       rw [show n - (c + 1) = d by omega]
       exact HL.out
     ·rw [if_neg htn] at hlp
      by_cases htx : t < (X.length : Int)
      ·rw [if_pos htx] at hlp
       obtain ⟨ix, rfl⟩ : ∃ ix : Nat, t = (ix : Int) := ⟨t.toNat, by omega⟩
       rw [Int.toNat_natCast] at hlp
       obtain ⟨X2, hX2, hlp⟩ := Option.bind_eq_some_iff.1 hlp
       obtain ⟨Y2, hY2, hlp⟩ := Option.bind_eq_some_iff.1 hlp
       have hix : ix < ps.length := by have := HLEN.out;omega
       have hix2 : ix < 1000000 := by omega
       obtain ⟨P, hP⟩ : ∃ P : List Int, P = X.getD ix [] := ⟨_, rfl⟩
       rw [← hP] at hX2 hY2 hlp
       have HZ := Aside0.mk (impl_reduceAny.mapO_some _ _ _ (impl_reduceAny.mapO_append _ _ _ _ _ hX2 hY2))
       have HX2 := Aside0.mk (impl_reduceAny.mapO_some _ _ _ hX2).1
       have HL := Aside0.mk hlp
       clear hX2 hY2 hlp htx htn
       obtain ⟨g, eA, hgb, hat⟩ := HSP.out.formN (by omega)
       subst eA
       obtain ⟨p, hp, hcell0⟩ := hat ix hix
       clear hat
       have hxP : X[ix]? = some P := by
        have h1 : ix < X.length := by have := HLEN.out;omega
        rw [hP, List.getD_eq_getElem?_getD, List.getElem?_eq_getElem h1]
        rfl
       have hrowP := (HRA.out.left HLEN.out).row ix p P hp hxP
       have hPn := hrowP.len
       have HP := Aside0.mk hp
       have HROWP := Aside0.mk hrowP
       clear hP hp hxP hrowP
       subst hPn
       have c1b0 : decide ((ix : Int) < 0) = false := decide_eq_false (by omega)
       obtain ⟨pv, hpv⟩ : ∃ pv, pv = sv P.length p := ⟨_, rfl⟩
       obtain ⟨A11, c11, hpv2⟩ : ∃ A11 c11, pv = .slice A11 P.length c11 := ⟨_, _, hpv⟩
       have hcell : wr.cell? ⟨g, ix, none⟩ = some (.slice A11 P.length c11) := by rw [hcell0, ← hpv2, hpv];rfl
       have HPV := Aside0.mk (hpv2.symm.trans hpv)
       have HGB := Aside0.mk hgb
       clear hcell0 hpv hpv2 hgb
       go_wp2_with fail
       refine (H106.out).mono ?_
       rintro e W2 ⟨rfl, hdr⟩
       have HK2 := Aside0.mk (drawn_kept hdr (fun _ => False))
       have HB2 := Aside0.mk (drawn_below hdr HB.out)
       have HCB := Aside0.mk (drawn_cell hdr (cell_new _ _ _))
       have hcell2 : W2.cell? ⟨g, ix, none⟩ = some (.slice A11 P.length c11) := cell_kept hcell HK2.out (fun h => h)
       clear hcell hdr
       have hix3 : ix + 1 ≤ ps.length := hix
       go_wp2_with fail
       clear hcell2 hix3 c1b0
       refine (delete_one w.heap.size P.length g c5 ix ps ps.length W2 (HSP.out.kept HK2.out (fun _ _ h => h)) hix).mono ?_
       rintro e W3 ⟨rfl, hsp3, hk3, hb3⟩
       obtain ⟨ps1, hps1⟩ : ∃ ps1, ps1 = ps.eraseIdx ix := ⟨_, rfl⟩
       rw [← hps1] at hsp3 ⊢
       have hnd3 := nodup_erase HP.out HND.out
       rw [← hps1] at hnd3
       have HND3 := Aside0.mk hnd3
       have HND4 := Aside0.mk (perm_move HP.out HND.out)
       rw [← hps1] at HND4
       have hmem : ∀ q ∈ ps ++ qs, ¬ q.1 = g := fun q hq e_ => by
        obtain ⟨x_, hx_⟩ := HRA.out.mem hq
        exact HSP.out.apart hx_ (by rw [e_];rfl)
       have hra2 := HRA.out.kept HK2.out (fun _ _ h => h)
       have hra3 : RowsAre W3 w.heap.size P.length (ps1 ++ qs) (X.eraseIdx ix ++ Y) := by
        have h1 := (hra2.kept hk3 hmem)
        rw [hps1]
        exact ((h1.left HLEN.out).erase ix).append (h1.right HLEN.out)
       have hrp3 : RowIs W3 w.heap.size P.length p P := (HROWP.out.kept HK2.out (fun h => h)).kept hk3 (hmem p (List.mem_append_left _ (List.mem_of_getElem? HP.out)))
       have hso3 : Spine W3 w.heap.size P.length (.slice A8 qs.length c8) qs := (HSO.out.kept HK2.out (fun _ _ h => h)).kept hk3 (fun k_ hk_ e_ => HVV.out g rfl (by rw [hk_, e_]))
       have hB_ : wr.heap.size ≠ g := fun e_ => by
        have := HSP.out.lt g rfl
        omega
       have hcb3 : W3.cell? ⟨wr.heap.size, 0, none⟩ = some (.int .i64 (c : Int)) := cell_kept HCB.out hk3 hB_
       have hbb : ∀ q ∈ ps ++ qs, q.1 < wr.heap.size := fun q hq => by
        obtain ⟨x_, hx_⟩ := HRA.out.mem hq
        exact hx_.lt
       have hbb3 : ∀ q ∈ ps1 ++ qs, ¬ wr.heap.size = q.1 := fun q hq e_ => by
        have := hbb q (by
         rcases List.mem_append.1 hq with h|h
         ·rw [hps1] at h
          exact List.mem_append_left _ (List.mem_of_mem_eraseIdx h)
         ·exact List.mem_append_right _ h)
        omega
       have HRA3 := Aside0.mk hra3
       have HRP3 := Aside0.mk hrp3
       have HSP3 := Aside0.mk hsp3
       have HSO3 := Aside0.mk hso3
       have HCB3 := Aside0.mk hcb3
       have HBB3 := Aside0.mk hbb3
       have HB3 := Aside0.mk (hb3 w HB2.out HGB.out)
       have HVV3 : Aside0 (∀ k_, (Value.slice (some ⟨g, 0, none⟩) ps1.length c5).ownBlock = some k_ → (Value.slice A8 qs.length c8).ownBlock ≠ some k_) := ⟨HVV.out⟩
       have HPS3 : Aside0 (ps1.length = (X.eraseIdx ix).length) := ⟨by rw [hps1, List.length_eraseIdx, List.length_eraseIdx, HLEN.out]⟩
       have hp1 : ps1.length < 1000000 := by rw [hps1, List.length_eraseIdx, if_pos hix];omega
       have hq1 : qs.length < 1000000 := by omega
       obtain ⟨wc_, ew_⟩ : ∃ x : World, x = wr := ⟨_, rfl⟩
       subst ew_
       clear hsp3 hk3 hb3 hps1 hnd3 hmem hra2 hra3 hrp3 hso3 hB_ hcb3 hbb hbb3 HSP HSO HRA HND HVV HB HK2 HB2 HCB HXC H106 AT HLEN HCAP HROWP HGB
       go_wp2
       go_loopg [50] 3 (fun kq v50 w' => ∃ t : Nat, v50 = .int .i64 (t : Int) ∧ Aside0 (t ≤ 2 ∧ kq + t = 3) ∧ Aside0 (RowsAre w' w.heap.size P.length (ps1 ++ qs) (mix (X.eraseIdx ix ++ Y) (X2 ++ Y2) (off ps1.length qs.length t))) ∧ Aside0 (Kept W3 w' (fun k_ => ∃ p ∈ ps1 ++ qs, k_ = p.1)) ∧ Aside0 (Below w.heap.size w w'))
       case atStart => exact ⟨0, by first|rfl|(simp;done), ⟨by omega, by omega⟩, ⟨by rw [show off ps1.length qs.length 0 = 0 from rfl, mix_zero];exact HRA3.out⟩, ⟨Kept.refl _ _⟩, HB3⟩
       case round =>
        obtain ⟨t, rfl, HT, HRA, HK, HB⟩ := hrel
        have hspr := HSP3.out.kept HK.out (fun k_ hk_ ⟨p_, hp_, e_⟩ => by
         obtain ⟨x_, hx_⟩ := HRA3.out.mem hp_
         exact HSP3.out.apart hx_ (by rw [hk_, e_]))
        have hsor := HSO3.out.kept HK.out (fun k_ hk_ ⟨p_, hp_, e_⟩ => by
         obtain ⟨x_, hx_⟩ := HRA3.out.mem hp_
         exact HSO3.out.apart hx_ (by rw [hk_, e_]))
        have HSPR := Aside0.mk hspr
        have HSOR := Aside0.mk hsor
        clear hspr hsor
        by_cases ht0 : t = 0
        ·subst ht0
         have hidx := index_left (some ⟨g, 0, none⟩) A8 ps1.length qs.length c5 c8
         go_wp2
         clear hidx
         go_loopg [55] (ps1.length + 1) (fun kq v55 w' => ∃ j : Nat, v55 = .int .i64 (j : Int) ∧ Aside0 (j ≤ ps1.length ∧ kq + j = ps1.length + 1) ∧ Aside0 (RowsAre w' w.heap.size P.length (ps1 ++ qs) (mix (X.eraseIdx ix ++ Y) (X2 ++ Y2) (0 + j))) ∧ Aside0 (Kept W3 w' (fun k_ => ∃ p ∈ ps1 ++ qs, k_ = p.1)) ∧ Aside0 (Below w.heap.size w w'))
         case atStart => exact ⟨0, by first|rfl|(simp;done), ⟨by omega, by omega⟩, ⟨HRA.out⟩, HK, HB⟩
         case round =>
          clear HRA HK HB HSPR HSOR
          obtain ⟨j, rfl, HJ, HRA, HK, HB⟩ := hrel
          by_cases hj : j < ps1.length
          ·have hspj := HSP3.out.kept HK.out (fun k_ hk_ ⟨p_, hp_, e_⟩ => by
            obtain ⟨x_, hx_⟩ := HRA3.out.mem hp_
            exact HSP3.out.apart hx_ (by rw [hk_, e_]))
           obtain ⟨g2, e2, _, hat⟩ := hspj.formN (by omega)
           cases e2
           obtain ⟨q, hq, hcellq⟩ := hat j hj
           clear hat hspj
           have hqa : (ps1 ++ qs)[0 + j]? = some q := by rw [Nat.zero_add, List.getElem?_append_left hj];exact hq
           obtain ⟨x, hx, hrow⟩ := HRA.out.get hqa
           have hxx : (X.eraseIdx ix ++ Y)[0 + j]? = some x := by
            rw [mix_get _ _ _ _ HZ.out.1, if_neg (by omega)] at hx
            exact hx
           obtain ⟨y, hy, hf⟩ := HZ.out.2 _ x hxx
           clear hx hxx hq
           obtain ⟨ws_, es_⟩ : ∃ z : World, z = wr := ⟨_, rfl⟩
           subst es_
           obtain ⟨a9, ha9⟩ : ∃ a9 : Int, a9 = (c : Int) := ⟨_, rfl⟩
           have hu : (Value.slice (some ⟨q.1, 0, none⟩) x.length q.2) = sv P.length q := by rw [hrow.len];rfl
           have hcellu : ws_.cell? ⟨g, j, none⟩ = some (.slice (some ⟨q.1, 0, none⟩) x.length q.2) := by rw [hu];exact hcellq
           have HU := Aside0.mk hu
           obtain ⟨P15_, HP15⟩ : ∃ P15_ : Nat → Prop, Aside0 (∀ k_, P15_ k_ ↔ k_ = q.1) := ⟨fun k_ => k_ = q.1, ⟨fun _ => Iff.rfl⟩⟩
           have hqm : q ∈ ps1 ++ qs := List.mem_of_getElem? hqa
           have HO15 : Aside0 (Kd.R (Kd.int .i64) 3 ws_ w.heap.size (fun k_ => (P15_ k_ ∨ ws_.heap.size ≤ k_)) (.slice (some ⟨q.1, 0, none⟩) x.length q.2) x) := ⟨by rw [hu];exact Kd.R_mono hrow (fun k_ hk => .inl ((HP15.out k_).2 hk))⟩
           have HKS : Aside0 (∀ w', Kept ws_ w' (fun k_ => P15_ k_) → Kept W3 w' (fun k_ => ∃ p ∈ ps1 ++ qs, k_ = p.1)) := ⟨fun w' hk => Kept.then_ HK.out hk (fun k_ hs_ => .inl ⟨q, hqm, (HP15.out k_).1 hs_⟩)⟩
           have HR11 : Aside0 (∀ W_, Kept ws_ W_ (fun k_ => P15_ k_) → Kd.C (Kd.int .i64) W_ A11 P.length P) := ⟨fun W_ hk => by
            have h1 := HRP3.out.kept (HKS.out W_ hk) (fun ⟨p_, hp_, e_⟩ => HND3.out.2 p_ hp_ e_.symm)
            unfold RowIs at h1
            rw [← HPV.out] at h1
            exact (Kd.R_reads' h1).2.2⟩
           have HCBr : Aside0 (∀ W_, Kept ws_ W_ (fun k_ => P15_ k_) → W_.cell? ⟨wc_.heap.size, 0, none⟩ = some (.int .i64 a9)) := ⟨fun W_ hk => by
            rw [ha9]
            exact cell_kept HCB3.out (HKS.out W_ hk) (fun ⟨p_, hp_, e_⟩ => HBB3.out p_ hp_ e_)⟩
           have hcb : ws_.cell? ⟨wc_.heap.size, 0, none⟩ = some (.int .i64 a9) := HCBr.out ws_ (Kept.refl _ _)
           have HSTEP : Aside0 (∀ w', Kept ws_ w' (fun k_ => P15_ k_) → RowIs w' w.heap.size P.length q y → RowsAre w' w.heap.size P.length (ps1 ++ qs) (mix (X.eraseIdx ix ++ Y) (X2 ++ Y2) (0 + (j + 1)))) := ⟨fun w' hk hr => RowsAre.step HZ.out.1 HRA.out HND3.out.1 hqa hy (hk.mono fun k_ h_ => (HP15.out k_).1 h_) hr⟩
           have HKO := HK
           clear HK
           have HK := Aside0.mk (Kept.refl ws_ (fun k_ => P15_ k_))
           have H : (if 0 ≤ a9 then (if a9 < (x.length : Int) then (if (rd x a9) = 0 then (some x) else (impl_reduceAny.l0 k a9 P x (rd x a9) (x.length : Int) 0)) else (none)) else (none)) = some y := by rw [ha9];exact hf
           clear hf ha9 hu hcellq hrow hqa hy hqm HRA
           by_cases c17 : 0 ≤ a9
           ·rw [if_pos c17] at H
            have c17b0 : decide (0 ≤ a9) = true := decide_eq_true c17
            clear c17
            by_cases c18 : a9 < (x.length : Int)
            ·rw [if_pos c18] at H
             have c18b0 : decide (a9 < (x.length : Int)) = true := decide_eq_true c18
             clear c18
             by_cases c19 : (rd x a9) = 0
             ·rw [if_pos c19] at H
              have c19b0 : ((rd x a9) == 0) = true := beq_iff_eq.mpr c19
              have c19b1 : ((rd x a9) != 0) = false := bne_eq_false_iff_eq.mpr c19
              clear c19
              obtain rfl := Option.some.inj H
              obtain ⟨Ao20, co20, eo20⟩ := Kd.R_slice HO15.out
              cases eo20
              have p149 : 0 ≤ (a9 : Int) := of_decide_eq_true (by first|(with_reducible assumption)|assumption)
              have q149 : a9 < (x.length : Int) := of_decide_eq_true (by first|(with_reducible assumption)|assumption)
              obtain ⟨ad149, e149, hx149_0⟩ := Kd.at_int (Kd.R_reads' HO15.out).2.2 a9 p149 q149
              cases e149
              (first|simp only [add_plain] at hx149_0|skip)
              replace p149 := eq_true p149
              replace q149 := eq_true q149
              go_wp2
              go_roundg (ps1.length - j)
              case measure => have := HJ.out;omega
              case rel => exact ⟨j + 1, by first|go_num|rfl|(simp;done)|(simp [*];done), ⟨by omega, by omega⟩, ⟨HSTEP.out _ (Kept.refl _ _) (by show Kd.R (Kd.int .i64) 3 _ _ _ (sv P.length q) _;rw [← HU.out];exact Kd.R_reok rfl HO15.out (fun k_ e_ => by rw [HU.out] at e_;exact (Option.some.inj e_).symm))⟩, HKO, HB⟩
             ·rw [if_neg c19] at H
              have c19b0 : ((rd x a9) == 0) = false := beq_eq_false_iff_ne.mpr c19
              have c19b1 : ((rd x a9) != 0) = true := bne_iff_ne.mpr c19
              have H' := Aside0.mk H
              clear H
              obtain ⟨Ao21, co21, eo21⟩ := Kd.R_slice HO15.out
              cases eo21
              have p149 : 0 ≤ (a9 : Int) := of_decide_eq_true (by first|(with_reducible assumption)|assumption)
              have q149 : a9 < (x.length : Int) := of_decide_eq_true (by first|(with_reducible assumption)|assumption)
              obtain ⟨ad149, e149, hx149_0⟩ := Kd.at_int (Kd.R_reads' HO15.out).2.2 a9 p149 q149
              cases e149
              (first|simp only [add_plain] at hx149_0|skip)
              replace p149 := eq_true p149
              replace q149 := eq_true q149
              go_wp2
              go_loopg [67] k (fun kq v67 w' => ∃ (x15_1 : List Int) (x67_1 : Int), v67 = .int .i64 x67_1 ∧ Aside0 (impl_reduceAny.l0 kq a9 P x15_1 (rd x a9) (x.length : Int) x67_1 = some y) ∧ Aside0 (kq ≤ k) ∧ Aside0 (Kd.R (Kd.int .i64) 3 w' w.heap.size (fun k_ => (P15_ k_ ∨ ws_.heap.size ≤ k_)) (.slice (some (⟨q.1, 0, none⟩ : Addr)) x.length q.2) x15_1) ∧ Aside0 (Kept ws_ w' (fun k_ => P15_ k_)) ∧ Aside0 (Below w.heap.size w w'))
              case atStart => exact ⟨(x), (0), (by first|rfl|(simp;done)|(simp [*];done)), H', ⟨Nat.le_refl _⟩, ⟨by (with_reducible repeat (first|apply Kd.R_alloc|apply Kd.R_drewN|apply Kd.R_drew));exact HO15.out⟩, ⟨by repeat (first|(with_reducible first|exact HK.out|apply Kept.alloc|apply Kept.drewN|apply Kept.drew)|exact HK.out)⟩, ⟨by repeat (first|(with_reducible first|exact HB.out|apply below_alloc|apply pw_below_drewN|apply below_drew1)|exact HB.out)⟩⟩
              case round =>
               clear H'
               try clear c1
               try clear p1
               try clear q1
               try clear hx1
               try clear p2
               try clear c7
               try clear c11
               try clear p14
               try clear q14
               try clear hx14
               try clear c17
               try clear c17b0
               try clear c18
               try clear c18b0
               try clear c19
               try clear c19b0
               try clear c19b1
               try clear hx149_0
               try clear p149
               try clear q149
               obtain ⟨x15_1, x67_1, rfl, HA, HK1, HO_15, HK, HB⟩ := hrel
               have hl15_1 := (Kd.R_reads' HO_15.out).1
               rw [hl15_1] at HO_15
               (try simp only [hl15_1])
               cases gk with
              |zero => exact absurd HA.out (by simp [impl_reduceAny.l0])
              |succ k1 =>
                have H := HA.out
                clear HA
                simp only [impl_reduceAny.l0] at H
                by_cases c22 : x67_1 < (x.length : Int)
                ·rw [if_pos c22] at H
                 have c22b0 : decide (x67_1 < (x.length : Int)) = true := decide_eq_true c22
                 clear c22
                 by_cases c23 : 0 ≤ x67_1
                 ·rw [if_pos c23] at H
                  have c23b0 : decide (0 ≤ x67_1) = true := decide_eq_true c23
                  clear c23
                  by_cases c24 : x67_1 < (x15_1.length : Int)
                  ·rw [if_pos c24] at H
                   have c24b0 : decide (x67_1 < (x15_1.length : Int)) = true := decide_eq_true c24
                   clear c24
                   by_cases c25 : 0 ≤ a9
                   ·rw [if_pos c25] at H
                    have c25b0 : decide (0 ≤ a9) = true := decide_eq_true c25
                    clear c25
                    by_cases c26 : a9 < (P.length : Int)
                    ·rw [if_pos c26] at H
                     have c26b0 : decide (a9 < (P.length : Int)) = true := decide_eq_true c26
                     clear c26
                     by_cases c27 : x67_1 < (P.length : Int)
                     ·rw [if_pos c27] at H
                      have c27b0 : decide (x67_1 < (P.length : Int)) = true := decide_eq_true c27
                      clear c27
                      obtain ⟨y153, hy153⟩ : ∃ y_ : List Int, y_ = (x15_1.set (x67_1 : Int).toNat (wrap64 ((wrap64 ((rd x15_1 x67_1) * (rd P a9))) - (wrap64 ((rd P x67_1) * (rd x a9)))))) := ⟨_, rfl⟩
                      replace H : (impl_reduceAny.l0 k1 a9 P y153 (rd x a9) (x.length : Int) (wrap64 (x67_1 + 1))) = some y := by first|(rw [hy153];with_reducible exact H)|(have H2_ := (Option.bind_some _ _).symm.trans H;rw [hy153];with_reducible exact H2_)|(have H2_ := (Option.bind_some _ _).symm.trans H;with_reducible exact H2_)|with_reducible exact H|(rw [hy153];exact H)|exact H
                      have Ny153 := Aside0.mk hy153
                      clear hy153
                      have H' := Aside0.mk H
                      clear H
                      try go_wp2
                      have n0_ := Aside0.mk (Kd.R_drew HO_15.out)
                      have n1_ := Aside0.mk (Kept.drew HK.out)
                      have n2_ := Aside0.mk (below_drew1 HB.out)
                      clear HO_15
                      clear HK
                      clear HB
                      have HO_15 := n0_
                      have HK := n1_
                      have HB := n2_
                      clear n0_ n1_ n2_
                      have p150 : 0 ≤ (x67_1 : Int) := of_decide_eq_true (by first|(with_reducible assumption)|assumption)
                      have q150 : x67_1 < (x15_1.length : Int) := of_decide_eq_true (by first|(with_reducible assumption)|assumption)
                      obtain ⟨ad150, e150, hx150_0⟩ := Kd.at_int (Kd.R_reads' HO_15.out).2.2 x67_1 p150 q150
                      cases e150
                      replace p150 := eq_true p150
                      replace q150 := eq_true q150
                      have p151 : 0 ≤ (a9 : Int) := of_decide_eq_true (by first|(with_reducible assumption)|assumption)
                      have q151 : a9 < (P.length : Int) := of_decide_eq_true (by first|(with_reducible assumption)|assumption)
                      obtain ⟨ad151, e151, hx151_0⟩ := Kd.at_int (Kd.C_kept_now HR11.out HK.out) a9 p151 q151
                      have hw151_0 := hx151_0
                      cases e151
                      replace p151 := eq_true p151
                      replace q151 := eq_true q151
                      have p152 : 0 ≤ (x67_1 : Int) := of_decide_eq_true (by first|(with_reducible assumption)|assumption)
                      have q152 : x67_1 < (P.length : Int) := of_decide_eq_true (by first|(with_reducible assumption)|assumption)
                      obtain ⟨ad152, e152, hx152_0⟩ := Kd.at_int (Kd.C_kept_now HR11.out HK.out) x67_1 p152 q152
                      have hw152_0 := hx152_0
                      obtain rfl : ad151 = ad152 := (by injection e152)
                      replace p152 := eq_true p152
                      replace q152 := eq_true q152
                      have p28 : 0 ≤ (x67_1 : Int) := of_decide_eq_true (by first|(with_reducible assumption)|assumption)
                      have q28 : (x67_1 : Int) < ((x15_1.length : Int) : Int) := of_decide_eq_true (by first|(with_reducible assumption)|assumption)
                      obtain ⟨go28, co28, eo28, gb28, gl28, cl28, HG28⟩ := Kd.R_form HO_15.out (by omega)
                      (first|cases eo28|(injection eo28 with ea_ en_ ec_;(first|subst ea_|(injection ea_ with ea_;subst ea_));subst ec_;clear en_))
                      have GB28 := Aside0.mk gb28
                      have GG28 := Aside0.mk HG28
                      clear gb28 gl28 HG28
                      have HMgo28 := Aside0.mk (show (P15_ q.1 ∨ ws_.heap.size ≤ q.1) from (HO_15.out.1 _ rfl))
                      (first|simp only [add_plain] at hx149_0|skip)
                      (first|simp only [add_plain] at hx150_0|skip)
                      obtain ⟨hx28_0, hf28_0⟩ := Kd.R_celln 0 HO_15.out (x67_1 : Int) p28 q28
                      replace p28 := eq_true p28
                      replace q28 := eq_true q28
                      have HP30 := Kd.R_putn HO_15.out (x67_1 : Int) (wrap64 ((wrap64 ((rd x15_1 x67_1) * (rd P a9))) - (wrap64 ((rd P x67_1) * (rd x a9)))))
                      rw [← Ny153.out] at HP30
                      have HQ30 := Aside0.mk HP30
                      clear HP30
                      refine start_ (n := 20) (S := fun w' => w'.cell? ⟨q.1, (x67_1).toNat, none⟩ = some (.int .i64 (rd x15_1 x67_1)) ∧ w'.cell? (ad151.add (a9).toNat) = some (.int .i64 (rd P a9)) ∧ w'.cell? (ad151.add (x67_1).toNat) = some (.int .i64 (rd P x67_1)) ∧ w'.cell? ⟨wc_.heap.size, 0, none⟩ = some (.int .i64 a9)) (ds := [19]) #[false, false, false, false, false, false, false, false, false, false, false, false, false, false, false, false, false, false, false, false] (by kernel_rfl) rfl rfl ⟨hx150_0, (Kd.foot_int (HR11.out _ (by repeat (first|exact HK.out|apply Kept.alloc|apply Kept.drewN|apply Kept.drew|refine Kept.setCell ?_ HMgo28.out _))) a9 (of_eq_true p151) (of_eq_true q151)), (Kd.foot_int (HR11.out _ (by repeat (first|exact HK.out|apply Kept.alloc|apply Kept.drewN|apply Kept.drew|refine Kept.setCell ?_ HMgo28.out _))) x67_1 (of_eq_true p152) (of_eq_true q152)), (HCBr.out _ (by repeat (first|exact HK.out|apply Kept.alloc|apply Kept.drewN|apply Kept.drew|refine Kept.setCell ?_ HMgo28.out _)))⟩ (fun hHeld => ?_);refine with_tabW impl_reduceAny.tab26 impl_reduceAny.bits26 (fun HT_ HW_ => ?_)
                      generalize wr.drew = w29 at HO_15 HK HB GG28 HQ30 hf28_0 hx150_0 hx151_0 hx152_0 hx28_0 hHeld ⊢
                      refine pure_ (i := 0) (N := some 70) (v := ?_) (a' := ?_) #[true, false, false, false, false, false, false, false, false, false, false, false, false, false, false, false, false, false, false, false] rfl rfl (any_of HT_.out (by kernel_rfl)) (fun _ _ _ h => h) (Or.inl ⟨by rfl, ?_⟩) ?_ ?_
                      rotate_left
                      ·intro w'
                       go_simp
                       with_reducible rfl
                      rotate_left
                      ·simp only [Act.put, List.setIfInBounds_toArray, List.set_cons_zero, List.set_cons_succ, i64_w, i32_w]
                       rfl
                      refine pure_ (i := 1) (N := some 71) (v := ?_) (a' := ?_) #[true, true, false, false, false, false, false, false, false, false, false, false, false, false, false, false, false, false, false, false] rfl rfl (any_of HT_.out (by kernel_rfl)) (fun _ _ _ h => h) (Or.inl ⟨by rfl, ?_⟩) ?_ ?_
                      rotate_left
                      ·intro w'
                       go_simp
                       with_reducible rfl
                      rotate_left
                      ·simp only [Act.put, List.setIfInBounds_toArray, List.set_cons_zero, List.set_cons_succ, i64_w, i32_w]
                       rfl
                      refine pure_ (i := 2) (N := some 72) (v := ?_) (a' := ?_) #[true, true, true, false, false, false, false, false, false, false, false, false, false, false, false, false, false, false, false, false] rfl rfl (any_of HT_.out (by kernel_rfl)) (fun _ _ _ h => h) (Or.inl ⟨by rfl, ?_⟩) ?_ ?_
                      rotate_left
                      ·intro w'
                       go_simp
                       with_reducible rfl
                      rotate_left
                      ·simp only [Act.put, List.setIfInBounds_toArray, List.set_cons_zero, List.set_cons_succ, i64_w, i32_w]
                       rfl
                      refine pure_ (i := 3) (N := some 73) (v := ?_) (a' := ?_) #[true, true, true, true, false, false, false, false, false, false, false, false, false, false, false, false, false, false, false, false] rfl rfl (any_of HT_.out (by kernel_rfl)) (fun _ _ _ h => h) (Or.inl ⟨by rfl, ?_⟩) ?_ ?_
                      rotate_left
                      ·intro w'
                       go_simp
                       with_reducible rfl
                      rotate_left
                      ·simp only [Act.put, List.setIfInBounds_toArray, List.set_cons_zero, List.set_cons_succ, i64_w, i32_w]
                       rfl
                      refine pure_ (i := 4) (N := some 74) (v := ?_) (a' := ?_) #[true, true, true, true, true, false, false, false, false, false, false, false, false, false, false, false, false, false, false, false] rfl rfl (any_of HT_.out (by kernel_rfl)) (fun _ _ _ h => h) (Or.inl ⟨by rfl, ?_⟩) ?_ ?_
                      rotate_left
                      ·intro w'
                       go_simp
                       with_reducible rfl
                      rotate_left
                      ·simp only [Act.put, List.setIfInBounds_toArray, List.set_cons_zero, List.set_cons_succ, i64_w, i32_w]
                       rfl
                      refine pure_ (i := 6) (N := some 76) (v := ?_) (a' := ?_) #[true, true, true, true, true, false, true, false, false, false, false, false, false, false, false, false, false, false, false, false] rfl rfl (any_of HT_.out (by kernel_rfl)) (fun _ _ _ h => h) (Or.inl ⟨by rfl, ?_⟩) ?_ ?_
                      rotate_left
                      ·intro w'
                       go_simp
                       with_reducible rfl
                      rotate_left
                      ·simp only [Act.put, List.setIfInBounds_toArray, List.set_cons_zero, List.set_cons_succ, i64_w, i32_w]
                       rfl
                      refine take_ (i := 7) (N := some 77) (v := ?_) (a' := ?_) #[true, true, true, true, true, false, true, true, false, false, false, false, false, false, false, false, false, false, false, false] rfl rfl (take_ofW HT_.out HW_.out (by kernel_rfl)) (fun _ _ _ h => h) (Or.inl ⟨by rfl, ?_⟩) hHeld ?_ ?_
                      rotate_left
                      ·rintro w' ⟨s0, s1, s2, s3⟩
                       go_simp
                       with_reducible rfl
                      rotate_left
                      ·simp only [Act.put, List.setIfInBounds_toArray, List.set_cons_zero, List.set_cons_succ, i64_w, i32_w]
                       rfl
                      refine pure_ (i := 8) (N := some 78) (v := ?_) (a' := ?_) #[true, true, true, true, true, false, true, true, true, false, false, false, false, false, false, false, false, false, false, false] rfl rfl (any_of HT_.out (by kernel_rfl)) (fun _ _ _ h => h) (Or.inl ⟨by rfl, ?_⟩) ?_ ?_
                      rotate_left
                      ·intro w'
                       go_simp
                       with_reducible rfl
                      rotate_left
                      ·simp only [Act.put, List.setIfInBounds_toArray, List.set_cons_zero, List.set_cons_succ, i64_w, i32_w]
                       rfl
                      refine pure_ (i := 11) (N := some 81) (v := ?_) (a' := ?_) #[true, true, true, true, true, false, true, true, true, false, false, true, false, false, false, false, false, false, false, false] rfl rfl (any_of HT_.out (by kernel_rfl)) (fun _ _ _ h => h) (Or.inl ⟨by rfl, ?_⟩) ?_ ?_
                      rotate_left
                      ·intro w'
                       go_simp
                       with_reducible rfl
                      rotate_left
                      ·simp only [Act.put, List.setIfInBounds_toArray, List.set_cons_zero, List.set_cons_succ, i64_w, i32_w]
                       rfl
                      refine pure_ (i := 12) (N := some 82) (v := ?_) (a' := ?_) #[true, true, true, true, true, false, true, true, true, false, false, true, true, false, false, false, false, false, false, false] rfl rfl (any_of HT_.out (by kernel_rfl)) (fun _ _ _ h => h) (Or.inl ⟨by rfl, ?_⟩) ?_ ?_
                      rotate_left
                      ·intro w'
                       go_simp
                       with_reducible rfl
                      rotate_left
                      ·simp only [Act.put, List.setIfInBounds_toArray, List.set_cons_zero, List.set_cons_succ, i64_w, i32_w]
                       rfl
                      refine pure_ (i := 13) (N := some 83) (v := ?_) (a' := ?_) #[true, true, true, true, true, false, true, true, true, false, false, true, true, true, false, false, false, false, false, false] rfl rfl (any_of HT_.out (by kernel_rfl)) (fun _ _ _ h => h) (Or.inl ⟨by rfl, ?_⟩) ?_ ?_
                      rotate_left
                      ·intro w'
                       go_simp
                       with_reducible rfl
                      rotate_left
                      ·simp only [Act.put, List.setIfInBounds_toArray, List.set_cons_zero, List.set_cons_succ, i64_w, i32_w]
                       rfl
                      refine pure_ (i := 15) (N := some 85) (v := ?_) (a' := ?_) #[true, true, true, true, true, false, true, true, true, false, false, true, true, true, false, true, false, false, false, false] rfl rfl (any_of HT_.out (by kernel_rfl)) (fun _ _ _ h => h) (Or.inl ⟨by rfl, ?_⟩) ?_ ?_
                      rotate_left
                      ·intro w'
                       go_simp
                       with_reducible rfl
                      rotate_left
                      ·simp only [Act.put, List.setIfInBounds_toArray, List.set_cons_zero, List.set_cons_succ, i64_w, i32_w]
                       rfl
                      refine take_ (i := 5) (N := some 75) (v := ?_) (a' := ?_) #[true, true, true, true, true, true, true, true, true, false, false, true, true, true, false, true, false, false, false, false] rfl rfl (take_ofW HT_.out HW_.out (by kernel_rfl)) (fun _ _ _ h => h) (Or.inl ⟨by rfl, ?_⟩) hHeld ?_ ?_
                      rotate_left
                      ·rintro w' ⟨s0, s1, s2, s3⟩
                       go_simp
                       with_reducible rfl
                      rotate_left
                      ·simp only [Act.put, List.setIfInBounds_toArray, List.set_cons_zero, List.set_cons_succ, i64_w, i32_w]
                       rfl
                      refine take_ (i := 9) (N := some 79) (v := ?_) (a' := ?_) #[true, true, true, true, true, true, true, true, true, true, false, true, true, true, false, true, false, false, false, false] rfl rfl (take_ofW HT_.out HW_.out (by kernel_rfl)) (fun _ _ _ h => h) (Or.inl ⟨by rfl, ?_⟩) hHeld ?_ ?_
                      rotate_left
                      ·rintro w' ⟨s0, s1, s2, s3⟩
                       go_simp
                       with_reducible rfl
                      rotate_left
                      ·simp only [Act.put, List.setIfInBounds_toArray, List.set_cons_zero, List.set_cons_succ, i64_w, i32_w]
                       rfl
                      refine pure_ (i := 10) (N := some 80) (v := ?_) (a' := ?_) #[true, true, true, true, true, true, true, true, true, true, true, true, true, true, false, true, false, false, false, false] rfl rfl (any_of HT_.out (by kernel_rfl)) (fun _ _ _ h => h) (Or.inl ⟨by rfl, ?_⟩) ?_ ?_
                      rotate_left
                      ·intro w'
                       go_simp
                       with_reducible rfl
                      rotate_left
                      ·simp only [Act.put, List.setIfInBounds_toArray, List.set_cons_zero, List.set_cons_succ, i64_w, i32_w]
                       rfl
                      refine take_ (i := 14) (N := some 84) (v := ?_) (a' := ?_) #[true, true, true, true, true, true, true, true, true, true, true, true, true, true, true, true, false, false, false, false] rfl rfl (take_ofW HT_.out HW_.out (by kernel_rfl)) (fun _ _ _ h => h) (Or.inl ⟨by rfl, ?_⟩) hHeld ?_ ?_
                      rotate_left
                      ·rintro w' ⟨s0, s1, s2, s3⟩
                       go_simp
                       with_reducible rfl
                      rotate_left
                      ·simp only [Act.put, List.setIfInBounds_toArray, List.set_cons_zero, List.set_cons_succ, i64_w, i32_w]
                       rfl
                      refine pure_ (i := 16) (N := some 86) (v := ?_) (a' := ?_) #[true, true, true, true, true, true, true, true, true, true, true, true, true, true, true, true, true, false, false, false] rfl rfl (any_of HT_.out (by kernel_rfl)) (fun _ _ _ h => h) (Or.inl ⟨by rfl, ?_⟩) ?_ ?_
                      rotate_left
                      ·intro w'
                       go_simp
                       with_reducible rfl
                      rotate_left
                      ·simp only [Act.put, List.setIfInBounds_toArray, List.set_cons_zero, List.set_cons_succ, i64_w, i32_w]
                       rfl
                      refine pure_ (i := 17) (N := some 87) (v := ?_) (a' := ?_) #[true, true, true, true, true, true, true, true, true, true, true, true, true, true, true, true, true, true, false, false] rfl rfl (any_of HT_.out (by kernel_rfl)) (fun _ _ _ h => h) (Or.inl ⟨by rfl, ?_⟩) ?_ ?_
                      rotate_left
                      ·intro w'
                       go_simp
                       with_reducible rfl
                      rotate_left
                      ·simp only [Act.put, List.setIfInBounds_toArray, List.set_cons_zero, List.set_cons_succ, i64_w, i32_w]
                       rfl
                      refine pure_ (i := 18) (N := some 88) (v := ?_) (a' := ?_) #[true, true, true, true, true, true, true, true, true, true, true, true, true, true, true, true, true, true, true, false] rfl rfl (any_of HT_.out (by kernel_rfl)) (fun _ _ _ h => h) (Or.inl ⟨by rfl, ?_⟩) ?_ ?_
                      rotate_left
                      ·intro w'
                       go_simp
                       with_reducible rfl
                      rotate_left
                      ·simp only [Act.put, List.setIfInBounds_toArray, List.set_cons_zero, List.set_cons_succ, i64_w, i32_w]
                       rfl
                      refine last_ (i := 19) (N := none) #[true, true, true, true, true, true, true, true, true, true, true, true, true, true, true, true, true, true, true, true] rfl rfl (one_of HT_.out (by kernel_rfl)) (by decide) (fun K hK => ?_)
                      refine skip_ (w1 := ?_) (by rfl) rfl ?_ ?_
                      rotate_left
                      ·go_simp
                       rfl
                      refine hK.out _ _ ?_
                      clear hK K
                      refine done_ (done_of HT_.out (by kernel_rfl)) ?_
                      try go_wp2
                      (try simp only [← hl15_1])
                      go_roundg k1
                      case measure => have := HK1.out;omega
                      case rel => exact ⟨(y153), (wrap64 (x67_1 + 1)), (by first|rfl|(simp;done)|(simp [*];done)), H', ⟨by have := HK1.out;omega⟩, ⟨by (try simp only [hl15_1]);(with_reducible repeat (first|apply Kd.R_alloc|apply Kd.R_drewN|apply Kd.R_drew));exact HQ30.out⟩, ⟨by repeat (first|(with_reducible first|exact HK.out|apply Kept.alloc|apply Kept.drewN|apply Kept.drew|refine Kept.setCell ?_ HMgo28.out _)|exact HK.out)⟩, ⟨by repeat (first|(with_reducible first|exact HB.out|apply below_alloc|apply pw_below_drewN|apply below_drew1|refine below_set ?_ GB28.out)|exact HB.out)⟩⟩
                     ·rw [if_neg c27] at H
                      exact absurd H (by simp)
                    ·rw [if_neg c26] at H
                     exact absurd H (by simp)
                   ·rw [if_neg c25] at H
                    exact absurd H (by simp)
                  ·rw [if_neg c24] at H
                   exact absurd H (by simp)
                 ·rw [if_neg c23] at H
                  exact absurd H (by simp)
                ·rw [if_neg c22] at H
                 have c22b0 : decide (x67_1 < (x.length : Int)) = false := decide_eq_false c22
                 have c22b1 : decide (x67_1 < (x15_1.length : Int)) = false := by have h5_ := hl15_1;rw [show (x15_1.length : Int) = (x.length : Int) by omega];exact c22b0
                 clear c22
                 replace H := Option.bind_eq_some_iff.mp H
                 obtain ⟨t154, A310, H⟩ := H
                 replace H : (some t154) = some y := H
                 have A31 := Aside0.mk A310
                 clear A310
                 obtain rfl := Option.some.inj H
                 go_wp2_with (first|((with_reducible refine gate_callee (f := 105) rfl ?_);refine goesL_ (some 91) rfl rfl Try.func105 (by kernel_rfl) rfl #[.slice (some (⟨q.1, 0, none⟩ : Addr)) x15_1.length q.2] rfl (by (try simp only [List.map_toArray, List.map_cons, List.map_nil]);first|done|rfl|(simp only [List.length_drop, List.length_take];rfl)) ?_;(with_reducible refine (impl_tidy.calls k1 (fun k_ => some k_ = (.slice (some (⟨q.1, 0, none⟩ : Addr)) x15_1.length q.2 : Value).ownBlock) (.slice (some (⟨q.1, 0, none⟩ : Addr)) x15_1.length q.2) x15_1 t154 w _ ?side1 ?side2 A31.out).mono ?_);(case side1 => repeat (first|(with_reducible first|exact HB.out|apply below_alloc|apply pw_below_drewN|apply below_drew1)|exact HB.out));(case side2 => exact Kd.R_tight rfl HO_15.out);rintro e w32 ⟨rfl, hy0, hb, hkp⟩;refine ⟨_, rfl, ?_⟩;have n0_ := Aside0.mk (Kd.R_reok rfl hy0 (fun k_ e_ => HO_15.out.1 k_ e_));have n1_ := Aside0.mk (Kept.then_ (S := (fun k_ => P15_ k_)) (by repeat (first|(with_reducible first|exact HK.out|apply Kept.alloc|apply Kept.drewN|apply Kept.drew)|exact HK.out)) hkp (fun k_ hs_ => (fun e_ => (HO_15.out.1 k_ e_.symm)) hs_));have n2_ := Aside0.mk (hb);clear HO_15;clear HK;clear HB;have HO_15 := n0_;have HK := n1_;have HB := n2_;clear n0_ n1_ n2_;(try clear hb);(try clear hkp);(try clear hy0)))
                 go_roundg (ps1.length - j)
                 case measure => have := HJ.out;omega
                 case rel => exact ⟨j + 1, by first|go_num|rfl|(simp;done)|(simp [*];done), ⟨by omega, by omega⟩, ⟨HSTEP.out _ HK.out (by show Kd.R (Kd.int .i64) 3 _ _ _ (sv P.length q) _;rw [← HU.out, hl15_1];exact Kd.R_reok rfl HO_15.out (fun k_ e_ => by have e2_ := e_;(try rw [HU.out] at e2_);exact (Option.some.inj e2_).symm))⟩, ⟨HKS.out _ HK.out⟩, HB⟩
            ·rw [if_neg c18] at H
             exact absurd H (by simp)
           ·rw [if_neg c17] at H
            exact absurd H (by simp)
          ·have hje : ps1.length = j := by have := HJ.out;omega
           clear hje
           go_wp2
           go_roundg (2)
           case measure => have := HT.out;omega
           case rel => exact ⟨0 + 1, by first|rfl|(simp;done)|go_num, ⟨by omega, by omega⟩, ⟨by have h1 := HRA.out;have h2 := HJ.out;rw [show 0 + j = off ps1.length qs.length (0 + 1) by show _ = ps1.length;omega] at h1;exact h1⟩, HK, HB⟩
        ·by_cases ht1 : t = 1
         ·subst ht1
          have hidx := index_right (some ⟨g, 0, none⟩) A8 ps1.length qs.length c5 c8
          go_wp2
          clear hidx
          go_loopg [55] (qs.length + 1) (fun kq v55 w' => ∃ j : Nat, v55 = .int .i64 (j : Int) ∧ Aside0 (j ≤ qs.length ∧ kq + j = qs.length + 1) ∧ Aside0 (RowsAre w' w.heap.size P.length (ps1 ++ qs) (mix (X.eraseIdx ix ++ Y) (X2 ++ Y2) (ps1.length + j))) ∧ Aside0 (Kept W3 w' (fun k_ => ∃ p ∈ ps1 ++ qs, k_ = p.1)) ∧ Aside0 (Below w.heap.size w w'))
          case atStart => exact ⟨0, by first|rfl|(simp;done), ⟨by omega, by omega⟩, ⟨HRA.out⟩, HK, HB⟩
          case round =>
           clear HRA HK HB HSPR HSOR
           obtain ⟨j, rfl, HJ, HRA, HK, HB⟩ := hrel
           by_cases hj : j < qs.length
           ·have hspj := HSO3.out.kept HK.out (fun k_ hk_ ⟨p_, hp_, e_⟩ => by
             obtain ⟨x_, hx_⟩ := HRA3.out.mem hp_
             exact HSO3.out.apart hx_ (by rw [hk_, e_]))
            obtain ⟨g2, e2, _, hat⟩ := hspj.formN (by omega)
            cases e2
            obtain ⟨q, hq, hcellq⟩ := hat j hj
            clear hat hspj
            have hqa : (ps1 ++ qs)[ps1.length + j]? = some q := by rw [List.getElem?_append_right (by omega), Nat.add_sub_cancel_left];exact hq
            obtain ⟨x, hx, hrow⟩ := HRA.out.get hqa
            have hxx : (X.eraseIdx ix ++ Y)[ps1.length + j]? = some x := by
             rw [mix_get _ _ _ _ HZ.out.1, if_neg (by omega)] at hx
             exact hx
            obtain ⟨y, hy, hf⟩ := HZ.out.2 _ x hxx
            clear hx hxx hq
            obtain ⟨ws_, es_⟩ : ∃ z : World, z = wr := ⟨_, rfl⟩
            subst es_
            obtain ⟨a9, ha9⟩ : ∃ a9 : Int, a9 = (c : Int) := ⟨_, rfl⟩
            have hu : (Value.slice (some ⟨q.1, 0, none⟩) x.length q.2) = sv P.length q := by rw [hrow.len];rfl
            have hcellu : ws_.cell? ⟨g2, j, none⟩ = some (.slice (some ⟨q.1, 0, none⟩) x.length q.2) := by rw [hu];exact hcellq
            have HU := Aside0.mk hu
            obtain ⟨P15_, HP15⟩ : ∃ P15_ : Nat → Prop, Aside0 (∀ k_, P15_ k_ ↔ k_ = q.1) := ⟨fun k_ => k_ = q.1, ⟨fun _ => Iff.rfl⟩⟩
            have hqm : q ∈ ps1 ++ qs := List.mem_of_getElem? hqa
            have HO15 : Aside0 (Kd.R (Kd.int .i64) 3 ws_ w.heap.size (fun k_ => (P15_ k_ ∨ ws_.heap.size ≤ k_)) (.slice (some ⟨q.1, 0, none⟩) x.length q.2) x) := ⟨by rw [hu];exact Kd.R_mono hrow (fun k_ hk => .inl ((HP15.out k_).2 hk))⟩
            have HKS : Aside0 (∀ w', Kept ws_ w' (fun k_ => P15_ k_) → Kept W3 w' (fun k_ => ∃ p ∈ ps1 ++ qs, k_ = p.1)) := ⟨fun w' hk => Kept.then_ HK.out hk (fun k_ hs_ => .inl ⟨q, hqm, (HP15.out k_).1 hs_⟩)⟩
            have HR11 : Aside0 (∀ W_, Kept ws_ W_ (fun k_ => P15_ k_) → Kd.C (Kd.int .i64) W_ A11 P.length P) := ⟨fun W_ hk => by
             have h1 := HRP3.out.kept (HKS.out W_ hk) (fun ⟨p_, hp_, e_⟩ => HND3.out.2 p_ hp_ e_.symm)
             unfold RowIs at h1
             rw [← HPV.out] at h1
             exact (Kd.R_reads' h1).2.2⟩
            have HCBr : Aside0 (∀ W_, Kept ws_ W_ (fun k_ => P15_ k_) → W_.cell? ⟨wc_.heap.size, 0, none⟩ = some (.int .i64 a9)) := ⟨fun W_ hk => by
             rw [ha9]
             exact cell_kept HCB3.out (HKS.out W_ hk) (fun ⟨p_, hp_, e_⟩ => HBB3.out p_ hp_ e_)⟩
            have hcb : ws_.cell? ⟨wc_.heap.size, 0, none⟩ = some (.int .i64 a9) := HCBr.out ws_ (Kept.refl _ _)
            have HSTEP : Aside0 (∀ w', Kept ws_ w' (fun k_ => P15_ k_) → RowIs w' w.heap.size P.length q y → RowsAre w' w.heap.size P.length (ps1 ++ qs) (mix (X.eraseIdx ix ++ Y) (X2 ++ Y2) (ps1.length + (j + 1)))) := ⟨fun w' hk hr => RowsAre.step HZ.out.1 HRA.out HND3.out.1 hqa hy (hk.mono fun k_ h_ => (HP15.out k_).1 h_) hr⟩
            have HKO := HK
            clear HK
            have HK := Aside0.mk (Kept.refl ws_ (fun k_ => P15_ k_))
            have H : (if 0 ≤ a9 then (if a9 < (x.length : Int) then (if (rd x a9) = 0 then (some x) else (impl_reduceAny.l0 k a9 P x (rd x a9) (x.length : Int) 0)) else (none)) else (none)) = some y := by rw [ha9];exact hf
            clear hf ha9 hu hcellq hrow hqa hy hqm HRA
            by_cases c17 : 0 ≤ a9
            ·rw [if_pos c17] at H
             have c17b0 : decide (0 ≤ a9) = true := decide_eq_true c17
             clear c17
             by_cases c18 : a9 < (x.length : Int)
             ·rw [if_pos c18] at H
              have c18b0 : decide (a9 < (x.length : Int)) = true := decide_eq_true c18
              clear c18
              by_cases c19 : (rd x a9) = 0
              ·rw [if_pos c19] at H
               have c19b0 : ((rd x a9) == 0) = true := beq_iff_eq.mpr c19
               have c19b1 : ((rd x a9) != 0) = false := bne_eq_false_iff_eq.mpr c19
               clear c19
               obtain rfl := Option.some.inj H
               obtain ⟨Ao20, co20, eo20⟩ := Kd.R_slice HO15.out
               cases eo20
               have p149 : 0 ≤ (a9 : Int) := of_decide_eq_true (by first|(with_reducible assumption)|assumption)
               have q149 : a9 < (x.length : Int) := of_decide_eq_true (by first|(with_reducible assumption)|assumption)
               obtain ⟨ad149, e149, hx149_0⟩ := Kd.at_int (Kd.R_reads' HO15.out).2.2 a9 p149 q149
               cases e149
               (first|simp only [add_plain] at hx149_0|skip)
               replace p149 := eq_true p149
               replace q149 := eq_true q149
               go_wp2
               go_roundg (qs.length - j)
               case measure => have := HJ.out;omega
               case rel => exact ⟨j + 1, by first|go_num|rfl|(simp;done)|(simp [*];done), ⟨by omega, by omega⟩, ⟨HSTEP.out _ (Kept.refl _ _) (by show Kd.R (Kd.int .i64) 3 _ _ _ (sv P.length q) _;rw [← HU.out];exact Kd.R_reok rfl HO15.out (fun k_ e_ => by rw [HU.out] at e_;exact (Option.some.inj e_).symm))⟩, HKO, HB⟩
              ·rw [if_neg c19] at H
               have c19b0 : ((rd x a9) == 0) = false := beq_eq_false_iff_ne.mpr c19
               have c19b1 : ((rd x a9) != 0) = true := bne_iff_ne.mpr c19
               have H' := Aside0.mk H
               clear H
               obtain ⟨Ao21, co21, eo21⟩ := Kd.R_slice HO15.out
               cases eo21
               have p149 : 0 ≤ (a9 : Int) := of_decide_eq_true (by first|(with_reducible assumption)|assumption)
               have q149 : a9 < (x.length : Int) := of_decide_eq_true (by first|(with_reducible assumption)|assumption)
               obtain ⟨ad149, e149, hx149_0⟩ := Kd.at_int (Kd.R_reads' HO15.out).2.2 a9 p149 q149
               cases e149
               (first|simp only [add_plain] at hx149_0|skip)
               replace p149 := eq_true p149
               replace q149 := eq_true q149
               go_wp2
               go_loopg [67] k (fun kq v67 w' => ∃ (x15_1 : List Int) (x67_1 : Int), v67 = .int .i64 x67_1 ∧ Aside0 (impl_reduceAny.l0 kq a9 P x15_1 (rd x a9) (x.length : Int) x67_1 = some y) ∧ Aside0 (kq ≤ k) ∧ Aside0 (Kd.R (Kd.int .i64) 3 w' w.heap.size (fun k_ => (P15_ k_ ∨ ws_.heap.size ≤ k_)) (.slice (some (⟨q.1, 0, none⟩ : Addr)) x.length q.2) x15_1) ∧ Aside0 (Kept ws_ w' (fun k_ => P15_ k_)) ∧ Aside0 (Below w.heap.size w w'))
               case atStart => exact ⟨(x), (0), (by first|rfl|(simp;done)|(simp [*];done)), H', ⟨Nat.le_refl _⟩, ⟨by (with_reducible repeat (first|apply Kd.R_alloc|apply Kd.R_drewN|apply Kd.R_drew));exact HO15.out⟩, ⟨by repeat (first|(with_reducible first|exact HK.out|apply Kept.alloc|apply Kept.drewN|apply Kept.drew)|exact HK.out)⟩, ⟨by repeat (first|(with_reducible first|exact HB.out|apply below_alloc|apply pw_below_drewN|apply below_drew1)|exact HB.out)⟩⟩
               case round =>
                clear H'
                try clear c1
                try clear p1
                try clear q1
                try clear hx1
                try clear p2
                try clear c7
                try clear c11
                try clear p14
                try clear q14
                try clear hx14
                try clear c17
                try clear c17b0
                try clear c18
                try clear c18b0
                try clear c19
                try clear c19b0
                try clear c19b1
                try clear hx149_0
                try clear p149
                try clear q149
                obtain ⟨x15_1, x67_1, rfl, HA, HK1, HO_15, HK, HB⟩ := hrel
                have hl15_1 := (Kd.R_reads' HO_15.out).1
                rw [hl15_1] at HO_15
                (try simp only [hl15_1])
                cases gk with
               |zero => exact absurd HA.out (by simp [impl_reduceAny.l0])
               |succ k1 =>
                 have H := HA.out
                 clear HA
                 simp only [impl_reduceAny.l0] at H
                 by_cases c22 : x67_1 < (x.length : Int)
                 ·rw [if_pos c22] at H
                  have c22b0 : decide (x67_1 < (x.length : Int)) = true := decide_eq_true c22
                  clear c22
                  by_cases c23 : 0 ≤ x67_1
                  ·rw [if_pos c23] at H
                   have c23b0 : decide (0 ≤ x67_1) = true := decide_eq_true c23
                   clear c23
                   by_cases c24 : x67_1 < (x15_1.length : Int)
                   ·rw [if_pos c24] at H
                    have c24b0 : decide (x67_1 < (x15_1.length : Int)) = true := decide_eq_true c24
                    clear c24
                    by_cases c25 : 0 ≤ a9
                    ·rw [if_pos c25] at H
                     have c25b0 : decide (0 ≤ a9) = true := decide_eq_true c25
                     clear c25
                     by_cases c26 : a9 < (P.length : Int)
                     ·rw [if_pos c26] at H
                      have c26b0 : decide (a9 < (P.length : Int)) = true := decide_eq_true c26
                      clear c26
                      by_cases c27 : x67_1 < (P.length : Int)
                      ·rw [if_pos c27] at H
                       have c27b0 : decide (x67_1 < (P.length : Int)) = true := decide_eq_true c27
                       clear c27
                       obtain ⟨y153, hy153⟩ : ∃ y_ : List Int, y_ = (x15_1.set (x67_1 : Int).toNat (wrap64 ((wrap64 ((rd x15_1 x67_1) * (rd P a9))) - (wrap64 ((rd P x67_1) * (rd x a9)))))) := ⟨_, rfl⟩
                       replace H : (impl_reduceAny.l0 k1 a9 P y153 (rd x a9) (x.length : Int) (wrap64 (x67_1 + 1))) = some y := by first|(rw [hy153];with_reducible exact H)|(have H2_ := (Option.bind_some _ _).symm.trans H;rw [hy153];with_reducible exact H2_)|(have H2_ := (Option.bind_some _ _).symm.trans H;with_reducible exact H2_)|with_reducible exact H|(rw [hy153];exact H)|exact H
                       have Ny153 := Aside0.mk hy153
                       clear hy153
                       have H' := Aside0.mk H
                       clear H
                       try go_wp2
                       have n0_ := Aside0.mk (Kd.R_drew HO_15.out)
                       have n1_ := Aside0.mk (Kept.drew HK.out)
                       have n2_ := Aside0.mk (below_drew1 HB.out)
                       clear HO_15
                       clear HK
                       clear HB
                       have HO_15 := n0_
                       have HK := n1_
                       have HB := n2_
                       clear n0_ n1_ n2_
                       have p150 : 0 ≤ (x67_1 : Int) := of_decide_eq_true (by first|(with_reducible assumption)|assumption)
                       have q150 : x67_1 < (x15_1.length : Int) := of_decide_eq_true (by first|(with_reducible assumption)|assumption)
                       obtain ⟨ad150, e150, hx150_0⟩ := Kd.at_int (Kd.R_reads' HO_15.out).2.2 x67_1 p150 q150
                       cases e150
                       replace p150 := eq_true p150
                       replace q150 := eq_true q150
                       have p151 : 0 ≤ (a9 : Int) := of_decide_eq_true (by first|(with_reducible assumption)|assumption)
                       have q151 : a9 < (P.length : Int) := of_decide_eq_true (by first|(with_reducible assumption)|assumption)
                       obtain ⟨ad151, e151, hx151_0⟩ := Kd.at_int (Kd.C_kept_now HR11.out HK.out) a9 p151 q151
                       have hw151_0 := hx151_0
                       cases e151
                       replace p151 := eq_true p151
                       replace q151 := eq_true q151
                       have p152 : 0 ≤ (x67_1 : Int) := of_decide_eq_true (by first|(with_reducible assumption)|assumption)
                       have q152 : x67_1 < (P.length : Int) := of_decide_eq_true (by first|(with_reducible assumption)|assumption)
                       obtain ⟨ad152, e152, hx152_0⟩ := Kd.at_int (Kd.C_kept_now HR11.out HK.out) x67_1 p152 q152
                       have hw152_0 := hx152_0
                       obtain rfl : ad151 = ad152 := (by injection e152)
                       replace p152 := eq_true p152
                       replace q152 := eq_true q152
                       have p28 : 0 ≤ (x67_1 : Int) := of_decide_eq_true (by first|(with_reducible assumption)|assumption)
                       have q28 : (x67_1 : Int) < ((x15_1.length : Int) : Int) := of_decide_eq_true (by first|(with_reducible assumption)|assumption)
                       obtain ⟨go28, co28, eo28, gb28, gl28, cl28, HG28⟩ := Kd.R_form HO_15.out (by omega)
                       (first|cases eo28|(injection eo28 with ea_ en_ ec_;(first|subst ea_|(injection ea_ with ea_;subst ea_));subst ec_;clear en_))
                       have GB28 := Aside0.mk gb28
                       have GG28 := Aside0.mk HG28
                       clear gb28 gl28 HG28
                       have HMgo28 := Aside0.mk (show (P15_ q.1 ∨ ws_.heap.size ≤ q.1) from (HO_15.out.1 _ rfl))
                       (first|simp only [add_plain] at hx149_0|skip)
                       (first|simp only [add_plain] at hx150_0|skip)
                       obtain ⟨hx28_0, hf28_0⟩ := Kd.R_celln 0 HO_15.out (x67_1 : Int) p28 q28
                       replace p28 := eq_true p28
                       replace q28 := eq_true q28
                       have HP30 := Kd.R_putn HO_15.out (x67_1 : Int) (wrap64 ((wrap64 ((rd x15_1 x67_1) * (rd P a9))) - (wrap64 ((rd P x67_1) * (rd x a9)))))
                       rw [← Ny153.out] at HP30
                       have HQ30 := Aside0.mk HP30
                       clear HP30
                       refine start_ (n := 20) (S := fun w' => w'.cell? ⟨q.1, (x67_1).toNat, none⟩ = some (.int .i64 (rd x15_1 x67_1)) ∧ w'.cell? (ad151.add (a9).toNat) = some (.int .i64 (rd P a9)) ∧ w'.cell? (ad151.add (x67_1).toNat) = some (.int .i64 (rd P x67_1)) ∧ w'.cell? ⟨wc_.heap.size, 0, none⟩ = some (.int .i64 a9)) (ds := [19]) #[false, false, false, false, false, false, false, false, false, false, false, false, false, false, false, false, false, false, false, false] (by kernel_rfl) rfl rfl ⟨hx150_0, (Kd.foot_int (HR11.out _ (by repeat (first|exact HK.out|apply Kept.alloc|apply Kept.drewN|apply Kept.drew|refine Kept.setCell ?_ HMgo28.out _))) a9 (of_eq_true p151) (of_eq_true q151)), (Kd.foot_int (HR11.out _ (by repeat (first|exact HK.out|apply Kept.alloc|apply Kept.drewN|apply Kept.drew|refine Kept.setCell ?_ HMgo28.out _))) x67_1 (of_eq_true p152) (of_eq_true q152)), (HCBr.out _ (by repeat (first|exact HK.out|apply Kept.alloc|apply Kept.drewN|apply Kept.drew|refine Kept.setCell ?_ HMgo28.out _)))⟩ (fun hHeld => ?_);refine with_tabW impl_reduceAny.tab26 impl_reduceAny.bits26 (fun HT_ HW_ => ?_)
                       generalize wr.drew = w29 at HO_15 HK HB GG28 HQ30 hf28_0 hx150_0 hx151_0 hx152_0 hx28_0 hHeld ⊢
                       refine pure_ (i := 0) (N := some 70) (v := ?_) (a' := ?_) #[true, false, false, false, false, false, false, false, false, false, false, false, false, false, false, false, false, false, false, false] rfl rfl (any_of HT_.out (by kernel_rfl)) (fun _ _ _ h => h) (Or.inl ⟨by rfl, ?_⟩) ?_ ?_
                       rotate_left
                       ·intro w'
                        go_simp
                        with_reducible rfl
                       rotate_left
                       ·simp only [Act.put, List.setIfInBounds_toArray, List.set_cons_zero, List.set_cons_succ, i64_w, i32_w]
                        rfl
                       refine pure_ (i := 1) (N := some 71) (v := ?_) (a' := ?_) #[true, true, false, false, false, false, false, false, false, false, false, false, false, false, false, false, false, false, false, false] rfl rfl (any_of HT_.out (by kernel_rfl)) (fun _ _ _ h => h) (Or.inl ⟨by rfl, ?_⟩) ?_ ?_
                       rotate_left
                       ·intro w'
                        go_simp
                        with_reducible rfl
                       rotate_left
                       ·simp only [Act.put, List.setIfInBounds_toArray, List.set_cons_zero, List.set_cons_succ, i64_w, i32_w]
                        rfl
                       refine pure_ (i := 2) (N := some 72) (v := ?_) (a' := ?_) #[true, true, true, false, false, false, false, false, false, false, false, false, false, false, false, false, false, false, false, false] rfl rfl (any_of HT_.out (by kernel_rfl)) (fun _ _ _ h => h) (Or.inl ⟨by rfl, ?_⟩) ?_ ?_
                       rotate_left
                       ·intro w'
                        go_simp
                        with_reducible rfl
                       rotate_left
                       ·simp only [Act.put, List.setIfInBounds_toArray, List.set_cons_zero, List.set_cons_succ, i64_w, i32_w]
                        rfl
                       refine pure_ (i := 3) (N := some 73) (v := ?_) (a' := ?_) #[true, true, true, true, false, false, false, false, false, false, false, false, false, false, false, false, false, false, false, false] rfl rfl (any_of HT_.out (by kernel_rfl)) (fun _ _ _ h => h) (Or.inl ⟨by rfl, ?_⟩) ?_ ?_
                       rotate_left
                       ·intro w'
                        go_simp
                        with_reducible rfl
                       rotate_left
                       ·simp only [Act.put, List.setIfInBounds_toArray, List.set_cons_zero, List.set_cons_succ, i64_w, i32_w]
                        rfl
                       refine pure_ (i := 4) (N := some 74) (v := ?_) (a' := ?_) #[true, true, true, true, true, false, false, false, false, false, false, false, false, false, false, false, false, false, false, false] rfl rfl (any_of HT_.out (by kernel_rfl)) (fun _ _ _ h => h) (Or.inl ⟨by rfl, ?_⟩) ?_ ?_
                       rotate_left
                       ·intro w'
                        go_simp
                        with_reducible rfl
                       rotate_left
                       ·simp only [Act.put, List.setIfInBounds_toArray, List.set_cons_zero, List.set_cons_succ, i64_w, i32_w]
                        rfl
                       refine pure_ (i := 6) (N := some 76) (v := ?_) (a' := ?_) #[true, true, true, true, true, false, true, false, false, false, false, false, false, false, false, false, false, false, false, false] rfl rfl (any_of HT_.out (by kernel_rfl)) (fun _ _ _ h => h) (Or.inl ⟨by rfl, ?_⟩) ?_ ?_
                       rotate_left
                       ·intro w'
                        go_simp
                        with_reducible rfl
                       rotate_left
                       ·simp only [Act.put, List.setIfInBounds_toArray, List.set_cons_zero, List.set_cons_succ, i64_w, i32_w]
                        rfl
                       refine take_ (i := 7) (N := some 77) (v := ?_) (a' := ?_) #[true, true, true, true, true, false, true, true, false, false, false, false, false, false, false, false, false, false, false, false] rfl rfl (take_ofW HT_.out HW_.out (by kernel_rfl)) (fun _ _ _ h => h) (Or.inl ⟨by rfl, ?_⟩) hHeld ?_ ?_
                       rotate_left
                       ·rintro w' ⟨s0, s1, s2, s3⟩
                        go_simp
                        with_reducible rfl
                       rotate_left
                       ·simp only [Act.put, List.setIfInBounds_toArray, List.set_cons_zero, List.set_cons_succ, i64_w, i32_w]
                        rfl
                       refine pure_ (i := 8) (N := some 78) (v := ?_) (a' := ?_) #[true, true, true, true, true, false, true, true, true, false, false, false, false, false, false, false, false, false, false, false] rfl rfl (any_of HT_.out (by kernel_rfl)) (fun _ _ _ h => h) (Or.inl ⟨by rfl, ?_⟩) ?_ ?_
                       rotate_left
                       ·intro w'
                        go_simp
                        with_reducible rfl
                       rotate_left
                       ·simp only [Act.put, List.setIfInBounds_toArray, List.set_cons_zero, List.set_cons_succ, i64_w, i32_w]
                        rfl
                       refine pure_ (i := 11) (N := some 81) (v := ?_) (a' := ?_) #[true, true, true, true, true, false, true, true, true, false, false, true, false, false, false, false, false, false, false, false] rfl rfl (any_of HT_.out (by kernel_rfl)) (fun _ _ _ h => h) (Or.inl ⟨by rfl, ?_⟩) ?_ ?_
                       rotate_left
                       ·intro w'
                        go_simp
                        with_reducible rfl
                       rotate_left
                       ·simp only [Act.put, List.setIfInBounds_toArray, List.set_cons_zero, List.set_cons_succ, i64_w, i32_w]
                        rfl
                       refine pure_ (i := 12) (N := some 82) (v := ?_) (a' := ?_) #[true, true, true, true, true, false, true, true, true, false, false, true, true, false, false, false, false, false, false, false] rfl rfl (any_of HT_.out (by kernel_rfl)) (fun _ _ _ h => h) (Or.inl ⟨by rfl, ?_⟩) ?_ ?_
                       rotate_left
                       ·intro w'
                        go_simp
                        with_reducible rfl
                       rotate_left
                       ·simp only [Act.put, List.setIfInBounds_toArray, List.set_cons_zero, List.set_cons_succ, i64_w, i32_w]
                        rfl
                       refine pure_ (i := 13) (N := some 83) (v := ?_) (a' := ?_) #[true, true, true, true, true, false, true, true, true, false, false, true, true, true, false, false, false, false, false, false] rfl rfl (any_of HT_.out (by kernel_rfl)) (fun _ _ _ h => h) (Or.inl ⟨by rfl, ?_⟩) ?_ ?_
                       rotate_left
                       ·intro w'
                        go_simp
                        with_reducible rfl
                       rotate_left
                       ·simp only [Act.put, List.setIfInBounds_toArray, List.set_cons_zero, List.set_cons_succ, i64_w, i32_w]
                        rfl
                       refine pure_ (i := 15) (N := some 85) (v := ?_) (a' := ?_) #[true, true, true, true, true, false, true, true, true, false, false, true, true, true, false, true, false, false, false, false] rfl rfl (any_of HT_.out (by kernel_rfl)) (fun _ _ _ h => h) (Or.inl ⟨by rfl, ?_⟩) ?_ ?_
                       rotate_left
                       ·intro w'
                        go_simp
                        with_reducible rfl
                       rotate_left
                       ·simp only [Act.put, List.setIfInBounds_toArray, List.set_cons_zero, List.set_cons_succ, i64_w, i32_w]
                        rfl
                       refine take_ (i := 5) (N := some 75) (v := ?_) (a' := ?_) #[true, true, true, true, true, true, true, true, true, false, false, true, true, true, false, true, false, false, false, false] rfl rfl (take_ofW HT_.out HW_.out (by kernel_rfl)) (fun _ _ _ h => h) (Or.inl ⟨by rfl, ?_⟩) hHeld ?_ ?_
                       rotate_left
                       ·rintro w' ⟨s0, s1, s2, s3⟩
                        go_simp
                        with_reducible rfl
                       rotate_left
                       ·simp only [Act.put, List.setIfInBounds_toArray, List.set_cons_zero, List.set_cons_succ, i64_w, i32_w]
                        rfl
                       refine take_ (i := 9) (N := some 79) (v := ?_) (a' := ?_) #[true, true, true, true, true, true, true, true, true, true, false, true, true, true, false, true, false, false, false, false] rfl rfl (take_ofW HT_.out HW_.out (by kernel_rfl)) (fun _ _ _ h => h) (Or.inl ⟨by rfl, ?_⟩) hHeld ?_ ?_
                       rotate_left
                       ·rintro w' ⟨s0, s1, s2, s3⟩
                        go_simp
                        with_reducible rfl
                       rotate_left
                       ·simp only [Act.put, List.setIfInBounds_toArray, List.set_cons_zero, List.set_cons_succ, i64_w, i32_w]
                        rfl
                       refine pure_ (i := 10) (N := some 80) (v := ?_) (a' := ?_) #[true, true, true, true, true, true, true, true, true, true, true, true, true, true, false, true, false, false, false, false] rfl rfl (any_of HT_.out (by kernel_rfl)) (fun _ _ _ h => h) (Or.inl ⟨by rfl, ?_⟩) ?_ ?_
                       rotate_left
                       ·intro w'
                        go_simp
                        with_reducible rfl
                       rotate_left
                       ·simp only [Act.put, List.setIfInBounds_toArray, List.set_cons_zero, List.set_cons_succ, i64_w, i32_w]
                        rfl
                       refine take_ (i := 14) (N := some 84) (v := ?_) (a' := ?_) #[true, true, true, true, true, true, true, true, true, true, true, true, true, true, true, true, false, false, false, false] rfl rfl (take_ofW HT_.out HW_.out (by kernel_rfl)) (fun _ _ _ h => h) (Or.inl ⟨by rfl, ?_⟩) hHeld ?_ ?_
                       rotate_left
                       ·rintro w' ⟨s0, s1, s2, s3⟩
                        go_simp
                        with_reducible rfl
                       rotate_left
                       ·simp only [Act.put, List.setIfInBounds_toArray, List.set_cons_zero, List.set_cons_succ, i64_w, i32_w]
                        rfl
                       refine pure_ (i := 16) (N := some 86) (v := ?_) (a' := ?_) #[true, true, true, true, true, true, true, true, true, true, true, true, true, true, true, true, true, false, false, false] rfl rfl (any_of HT_.out (by kernel_rfl)) (fun _ _ _ h => h) (Or.inl ⟨by rfl, ?_⟩) ?_ ?_
                       rotate_left
                       ·intro w'
                        go_simp
                        with_reducible rfl
                       rotate_left
                       ·simp only [Act.put, List.setIfInBounds_toArray, List.set_cons_zero, List.set_cons_succ, i64_w, i32_w]
                        rfl
                       refine pure_ (i := 17) (N := some 87) (v := ?_) (a' := ?_) #[true, true, true, true, true, true, true, true, true, true, true, true, true, true, true, true, true, true, false, false] rfl rfl (any_of HT_.out (by kernel_rfl)) (fun _ _ _ h => h) (Or.inl ⟨by rfl, ?_⟩) ?_ ?_
                       rotate_left
                       ·intro w'
                        go_simp
                        with_reducible rfl
                       rotate_left
                       ·simp only [Act.put, List.setIfInBounds_toArray, List.set_cons_zero, List.set_cons_succ, i64_w, i32_w]
                        rfl
                       refine pure_ (i := 18) (N := some 88) (v := ?_) (a' := ?_) #[true, true, true, true, true, true, true, true, true, true, true, true, true, true, true, true, true, true, true, false] rfl rfl (any_of HT_.out (by kernel_rfl)) (fun _ _ _ h => h) (Or.inl ⟨by rfl, ?_⟩) ?_ ?_
                       rotate_left
                       ·intro w'
                        go_simp
                        with_reducible rfl
                       rotate_left
                       ·simp only [Act.put, List.setIfInBounds_toArray, List.set_cons_zero, List.set_cons_succ, i64_w, i32_w]
                        rfl
                       refine last_ (i := 19) (N := none) #[true, true, true, true, true, true, true, true, true, true, true, true, true, true, true, true, true, true, true, true] rfl rfl (one_of HT_.out (by kernel_rfl)) (by decide) (fun K hK => ?_)
                       refine skip_ (w1 := ?_) (by rfl) rfl ?_ ?_
                       rotate_left
                       ·go_simp
                        rfl
                       refine hK.out _ _ ?_
                       clear hK K
                       refine done_ (done_of HT_.out (by kernel_rfl)) ?_
                       try go_wp2
                       (try simp only [← hl15_1])
                       go_roundg k1
                       case measure => have := HK1.out;omega
                       case rel => exact ⟨(y153), (wrap64 (x67_1 + 1)), (by first|rfl|(simp;done)|(simp [*];done)), H', ⟨by have := HK1.out;omega⟩, ⟨by (try simp only [hl15_1]);(with_reducible repeat (first|apply Kd.R_alloc|apply Kd.R_drewN|apply Kd.R_drew));exact HQ30.out⟩, ⟨by repeat (first|(with_reducible first|exact HK.out|apply Kept.alloc|apply Kept.drewN|apply Kept.drew|refine Kept.setCell ?_ HMgo28.out _)|exact HK.out)⟩, ⟨by repeat (first|(with_reducible first|exact HB.out|apply below_alloc|apply pw_below_drewN|apply below_drew1|refine below_set ?_ GB28.out)|exact HB.out)⟩⟩
                      ·rw [if_neg c27] at H
                       exact absurd H (by simp)
                     ·rw [if_neg c26] at H
                      exact absurd H (by simp)
                    ·rw [if_neg c25] at H
                     exact absurd H (by simp)
                   ·rw [if_neg c24] at H
                    exact absurd H (by simp)
                  ·rw [if_neg c23] at H
                   exact absurd H (by simp)
                 ·rw [if_neg c22] at H
                  have c22b0 : decide (x67_1 < (x.length : Int)) = false := decide_eq_false c22
                  have c22b1 : decide (x67_1 < (x15_1.length : Int)) = false := by have h5_ := hl15_1;rw [show (x15_1.length : Int) = (x.length : Int) by omega];exact c22b0
                  clear c22
                  replace H := Option.bind_eq_some_iff.mp H
                  obtain ⟨t154, A310, H⟩ := H
                  replace H : (some t154) = some y := H
                  have A31 := Aside0.mk A310
                  clear A310
                  obtain rfl := Option.some.inj H
                  go_wp2_with (first|((with_reducible refine gate_callee (f := 105) rfl ?_);refine goesL_ (some 91) rfl rfl Try.func105 (by kernel_rfl) rfl #[.slice (some (⟨q.1, 0, none⟩ : Addr)) x15_1.length q.2] rfl (by (try simp only [List.map_toArray, List.map_cons, List.map_nil]);first|done|rfl|(simp only [List.length_drop, List.length_take];rfl)) ?_;(with_reducible refine (impl_tidy.calls k1 (fun k_ => some k_ = (.slice (some (⟨q.1, 0, none⟩ : Addr)) x15_1.length q.2 : Value).ownBlock) (.slice (some (⟨q.1, 0, none⟩ : Addr)) x15_1.length q.2) x15_1 t154 w _ ?side1 ?side2 A31.out).mono ?_);(case side1 => repeat (first|(with_reducible first|exact HB.out|apply below_alloc|apply pw_below_drewN|apply below_drew1)|exact HB.out));(case side2 => exact Kd.R_tight rfl HO_15.out);rintro e w32 ⟨rfl, hy0, hb, hkp⟩;refine ⟨_, rfl, ?_⟩;have n0_ := Aside0.mk (Kd.R_reok rfl hy0 (fun k_ e_ => HO_15.out.1 k_ e_));have n1_ := Aside0.mk (Kept.then_ (S := (fun k_ => P15_ k_)) (by repeat (first|(with_reducible first|exact HK.out|apply Kept.alloc|apply Kept.drewN|apply Kept.drew)|exact HK.out)) hkp (fun k_ hs_ => (fun e_ => (HO_15.out.1 k_ e_.symm)) hs_));have n2_ := Aside0.mk (hb);clear HO_15;clear HK;clear HB;have HO_15 := n0_;have HK := n1_;have HB := n2_;clear n0_ n1_ n2_;(try clear hb);(try clear hkp);(try clear hy0)))
                  go_roundg (qs.length - j)
                  case measure => have := HJ.out;omega
                  case rel => exact ⟨j + 1, by first|go_num|rfl|(simp;done)|(simp [*];done), ⟨by omega, by omega⟩, ⟨HSTEP.out _ HK.out (by show Kd.R (Kd.int .i64) 3 _ _ _ (sv P.length q) _;rw [← HU.out, hl15_1];exact Kd.R_reok rfl HO_15.out (fun k_ e_ => by have e2_ := e_;(try rw [HU.out] at e2_);exact (Option.some.inj e2_).symm))⟩, ⟨HKS.out _ HK.out⟩, HB⟩
             ·rw [if_neg c18] at H
              exact absurd H (by simp)
            ·rw [if_neg c17] at H
             exact absurd H (by simp)
           ·have hje : qs.length = j := by have := HJ.out;omega
            clear hje
            go_wp2
            go_roundg (1)
            case measure => have := HT.out;omega
            case rel => exact ⟨1 + 1, by first|rfl|(simp;done)|go_num, ⟨by omega, by omega⟩, ⟨by have h1 := HRA.out;have h2 := HJ.out;rw [show ps1.length + j = off ps1.length qs.length (1 + 1) by show _ = ps1.length + qs.length;omega] at h1;exact h1⟩, HK, HB⟩
         ·obtain rfl : t = 2 := by have := HT.out;omega
          go_wp2_with ((with_reducible refine gate_builtin (b := .append) (xs := #[.tmp 94, .tmp 96]) rfl ?_);at_builtin;go_loud (refine Kd.R_append (SK P.length) (w0 := w) w.heap.size rfl (.tmp 94) (.tmp 96) 22 23 (.slice none 0 0) 24 rfl Try.underlying22 info23 rfl (show (0 : Nat) < 1 by omega) (by omega) (.slice A8 qs.length c8) qs p [.slice A11 P.length c11] (fun _ => True) (fun _ => False) rfl rfl ?aP (fun _ h => h.elim) (fun _ _ => trivial) ?aO ?aB ?aS ?aL ?_);(case aP => exact (by show [_] = [_];rw [HPV.out]));(case aO => exact Kd.R_mono HSOR.out (fun _ _ => trivial));(case aB => exact HB.out);(case aS => exact HB.out.size);(case aL => omega);intro v1 w8 ho hb hg hat;have HO8 := Aside0.mk ho;have HB8 := Aside0.mk hb;have HG8 := Aside0.mk hg;have HAT := Aside0.mk hat;clear ho hb hg hat)
          go_roundg (P.length - c)
          case measure => have := HC.out;omega
          case rel =>
           have hk8 : Kept wr w8 (fun k_ => (Value.slice A8 qs.length c8).ownBlock = some k_) := ⟨HG8.out.size, fun k_ hlt hne => HG8.out.block k_ hlt (fun e_ => hne e_.symm)⟩
           have hlz := HZ.out.1
           have hyl : qs.length = Y.length := by
            have h1 := HRA3.out.len
            rw [List.length_append, List.length_append] at h1
            have := HPS3.out
            omega
           have hfin : RowsAre wr w.heap.size P.length (ps1 ++ qs) (X2 ++ Y2) := by
            have h1 := HRA.out
            rw [show off ps1.length qs.length 2 = (X.eraseIdx ix ++ Y).length by rw [List.length_append, ← HPS3.out, ← hyl];rfl, mix_all _ _ hlz] at h1
            exact h1
           have hapart : ∀ q_ ∈ ps1 ++ qs, ¬ (Value.slice A8 qs.length c8).ownBlock = some q_.1 := fun q_ hq_ e_ => by
            obtain ⟨x_, hx_⟩ := hfin.mem hq_
            exact HSOR.out.apart hx_ e_
           have hrpr : RowIs wr w.heap.size P.length p P := HRP3.out.kept HK.out (fun ⟨p_, hp_, e_⟩ => HND3.out.2 p_ hp_ e_.symm)
           have hrp8 : RowIs w8 w.heap.size P.length p P := hrpr.kept hk8 (fun e_ => HSOR.out.apart hrpr e_)
           refine ⟨c + 1, by first|go_num|rfl|(simp;done)|(simp [*];done), ⟨by omega, by omega⟩, ⟨ps1, qs ++ [p], X2, Y2 ++ [P], ?_, HSPR.out.kept hk8 (fun k_ hk_ e_ => HVV3.out k_ hk_ e_), Kd.R_tight rfl HO8.out, ?_, ?_, HND4.out, ?_, by omega, by simp;omega, HB8.out⟩⟩
           ·have := HD.out
            rw [show P.length - (c + 1) = d by omega]
            exact HL.out
           ·rw [← List.append_assoc, ← List.append_assoc]
            refine (hfin.kept hk8 hapart).append ⟨rfl, fun i_ p_ x_ hp_ hx_ => ?_⟩
            cases i_ with
           |zero =>
             simp only [List.getElem?_cons_zero, Option.some.injEq] at hp_ hx_
             subst hp_;subst hx_
             exact hrp8
           |succ i_ => simp at hp_
           ·rw [HPS3.out];exact HX2.out
           ·intro k_ hk_ e_
            rcases HAT.out with h_|⟨b_, h_, hb_⟩
            ·rw [h_] at e_
             exact HVV3.out k_ hk_ e_
            ·rw [h_] at e_
             have h2_ := HSPR.out.lt k_ hk_
             have h3_ := Option.some.inj e_
             omega
      ·rw [if_neg htx] at hlp
       cases hlp
    ·go_wp2
     have hcn : n - c = 0 := by omega
     rw [hcn] at hlp
     obtain rfl := Option.some.inj hlp
     go_ret
     exact ⟨_, by first|rfl|(simp;done)|(simp [*];done), to_S HSO.out (HRA.out.right HLEN.out) (by have h := HND.out;rw [List.map_append] at h;exact (List.nodup_append.1 h).2.1), HB.out⟩
theorem slices_Clone_int_int_78.eql_nil (w : World) (t e : TypeId) (a : Option Addr) (n c : Nat) (h : Try.prog.underlying t = some (.slice e)) :
  (Go.binOp .eql t (.slice a n c) (.slice none 0 0)).run Try.prog w = .ok (.bool a.isNone) w := Go.Lib.run_eql_slice_nil w t e a n c 0 0 h
def slices_Clone_int_int_78.f (l0 : List (List Int)) : Option ((List (List Int))) := (some (([] : List (List Int)) : List (List Int))).bind fun y132 => (if y132.length + l0.length < 5864062014805 then (some (y132 ++ l0)) else (none))
set_option maxHeartbeats 8000000 in
set_option maxRecDepth 100000 in
theorem slices_Clone_int_int_78.calls (P0_ : Nat → Prop) (A0 : Option Addr) (c0 : Nat) (l0 : List (List Int)) (r : List (List Int)) (w : World) (hs0 : Kd.V (Kd.slice 3 (Kd.int .i64)) 23 w w.heap.size (fun k_ => P0_ k_) (.slice A0 l0.length c0) l0) (h : slices_Clone_int_int_78.f l0 = some r) :
 Calls Try.prog 78 #[.slice A0 l0.length c0] w fun e w' => ∃ v0_ : Value, e = .returned (v0_) ∧ Kd.N (Kd.slice 3 (Kd.int .i64)) 23 w' w.heap.size (fun k_ => (P0_ k_ ∨ w.heap.size ≤ k_)) v0_ r ∧ Below w.heap.size w w' := by
 have HO0:=aM (show Kd.V (Kd.slice 3 (Kd.int .i64)) 23 w w.heap.size (fun k_=>(P0_ k_∨w.heap.size≤k_)) (.slice A0 l0.length c0) l0 from Kd.V_mono hs0 (fun k_ hk=>.inl hk));cases A0 with
 | none=>
  have hl:l0=[]:=by
   cases l0 with
   | nil=>rfl
   | cons a l=>
    obtain ⟨ad,e,_⟩:=(Kd.V_reads' HO0.out).2.2.2.2 (by simp);cases e
  subst hl;have hr:r=[]:=(by simpa [slices_Clone_int_int_78.f] using h.symm);subst hr;clear h;have heq:∀W:World,(Go.binOp .eql 22 (.slice none 0 c0) (.slice none 0 0)).run Try.prog W = .ok (.bool true) W:=fun W=>slices_Clone_int_int_78.eql_nil W 22 _ _ _ _ Try.underlying22;go_enter Try.func78,Try.ntmps78;go_wp2;go_ret;exact ⟨_,rfl,Kd.N_nil _ _ _ _ _,Below.refl _ _⟩
 | some ad0=>
  have heq:∀W:World,(Go.binOp .eql 22 (.slice (some ad0) l0.length c0) (.slice none 0 0)).run Try.prog W = .ok (.bool false) W:=fun W=>slices_Clone_int_int_78.eql_nil W 22 _ _ _ _ Try.underlying22;have HB:=aM (Below.refl w.heap.size w);have H:((some (([]:List (List Int)):List (List Int))).bind fun y132=>(if y132.length+l0.length<5864062014805 then (some (y132 ++ l0)) else (none)))=some r:=h;clear h;obtain ⟨y132,hy132⟩:∃y_:List (List Int),y_=(([]:List (List Int))):=⟨_,rfl⟩;replace H:(if y132.length+l0.length<5864062014805 then (some (y132 ++ l0)) else (none))=some r:=(by first|(rw [hy132];with_reducible exact H)|(have H2_:=(Option.bind_some _ _).symm.trans H;rw [hy132];with_reducible exact H2_)|(have H2_:=(Option.bind_some _ _).symm.trans H;with_reducible exact H2_)|with_reducible exact H|(rw [hy132];exact H)|exact H);have Ny132:=aM hy132;clear hy132;by_cases c2:y132.length+l0.length<5864062014805
  ·rw [if_pos c2] at H;have LMc2:=aM c2;clear c2;obtain ⟨y135,hy135⟩:∃y_:List (List Int),y_=(y132 ++ l0):=⟨_,rfl⟩;replace H:(some y135)=some r:=(by first|(rw [hy135];with_reducible exact H)|(have H2_:=(Option.bind_some _ _).symm.trans H;rw [hy135];with_reducible exact H2_)|(have H2_:=(Option.bind_some _ _).symm.trans H;with_reducible exact H2_)|with_reducible exact H|(rw [hy135];exact H)|exact H);have Ny135:=aM hy135;clear hy135;obtain rfl:=Option.some.inj H;go_enter Try.func78,Try.ntmps78;go_wp2_with (first|((with_reducible refine gate_dst (N:=5) rfl ?_);refine Kd.N_lit (Kd.slice 3 (Kd.int .i64)) _ 23 ?hg (N':=5) ?hd (xs:=([]:List (List Int))) (inner:=[]) (ok:=(fun k_=>(P0_ k_∨w.heap.size≤k_))) (okp:=(fun k_=>(P0_ k_∨w.heap.size≤k_))) ?hr ?hp (fun _ hk=>hk) ((show ∀k_,w.heap.size≤k_→(fun k_=>(P0_ k_∨w.heap.size≤k_)) k_ from fun k_ hk=>(.inr (Nat.le_trans (below_size (zb HB.out)) hk))) _ (Nat.le_refl _)) (Below.refl _ _) (Nat.le_refl _) (by simp) ?_;(case hd=>rfl);(case hg=>rfl);(case hr=>first|(go_simp;done)|(go_simp;rfl));(case hp=>exact (Reps.none _ _));intro v133 w3 ho4 hb hg_ hnew_;clear hg_ hnew_;(first|rw [← Ny132.out] at ho4|(simp only [Int.reduceToNat] at ho4;rw [← Ny132.out] at ho4));replace HO0:=aM (Kd.V_elder' (zv HO0.out) (Kd.N_base ho4) hb);have HO134:=aM (Kd.N_lower ho4 (below_size (zb HB.out)));replace HB:=aM (below_step (zb HB.out) hb);clear hb ho4)|((with_reducible refine gate_builtin (b:=.append) (xs:=#[.tmp 5,.tmp 6]) rfl ?_);at_builtin;refine Kd.N_append_rows (Kd.slice 3 (Kd.int .i64)) (w0:=w) w.heap.size rfl (.tmp 5) (.tmp 6) 22 23 (.slice none 0 0) 24 rfl Try.underlying22 info23 rfl (by decide) (by omega) v133 y132 l0 _ _ _ (fun k_=>(P0_ k_∨w.heap.size≤k_)) (fun k_=>((fun k_=>(P0_ k_∨w.heap.size≤k_))) k_∧some k_≠(v133:Value).ownBlock) rfl rfl ?aO ?aR (fun _ hk=>hk) ?aF ?aB ?aS ?aL ?_;(case aR=>exact (by skip;exact Kd.V_F (Kd.V_mono (ok':=(fun k_=>((fun k_=>(P0_ k_∨w.heap.size≤k_))) k_∧some k_≠(v133:Value).ownBlock)) (HO0.out) (fun k_ hk=>⟨hk.1,hk.2⟩))));(case aB=>exact (zb HB.out));(case aF=>exact (fun k_ hk=>(.inr (Nat.le_trans (below_size (zb HB.out)) hk))));(case aO=>exact (zn HO134.out));(case aS=>exact (below_size (zb HB.out)));(case aL=>have:=LMc2.out;omega);intro v136 w5 ho hb hg hat;rw [← Ny135.out] at ho;replace HO0:=aM (Kd.V_afterv (ok:=(fun k_=>(P0_ k_∨w.heap.size≤k_))) (zv HO0.out) hg hat);replace HB:=aM (hb);have HO137:=aM (ho);clear HO134 ho hb hg hat));go_ret;exact ⟨_,by first|rfl|(simp [errW_none,errW_some]<;>rfl)|(simp [*,errW_none,errW_some]<;>rfl),zn HO137.out,zb HB.out⟩
  ·rw [if_neg c2] at H;exact absurd H (by simp)
def impl_IsInSpan.j0 : Nat → List (List Int) → List Int → Int → Bool → Option (Bool)
 | 0, _, _, _, _ => none
 | k + 1, x0, x1, x5, x18 => if x18 = true then (some false) else ((impl_reduceAny.f k x0 x5).bind fun t143 => ((slices_Clone_int_int_78.f x0).bind fun t146 => (if t146.length < 5864062014805 then ((impl_reduceAny.f k (t146 ++ [x1]) x5).bind fun t152 => (some ((t143.length : Int) == (t152.length : Int)))) else (none))))
def impl_IsInSpan.f (k : Nat) (l0 : List (List Int)) (l1 : List Int) : Option (Bool) := (impl_IsMatrix.f k l0 (l1.length : Int)).bind fun t138 => (if t138 = true then ((impl_IsMatrix.f k (([l1] : List (List Int))) (l1.length : Int)).bind fun t142 => (impl_IsInSpan.j0 k l0 l1 (l1.length : Int) (!t142))) else (impl_IsInSpan.j0 k l0 l1 (l1.length : Int) true))
set_option maxHeartbeats 8000000 in
set_option maxRecDepth 100000 in
theorem impl_IsInSpan.callsV (k : Nat) (P0_ : Nat → Prop) (A0 : Option Addr) (c0 : Nat) (l0 : List (List Int)) (P1_ : Nat → Prop) (A1 : Option Addr) (c1 : Nat) (l1 : List Int) (r : Bool) (w : World) (hs0 : Kd.V (Kd.slice 3 (Kd.int .i64)) 23 w w.heap.size (fun k_ => P0_ k_) (.slice A0 l0.length c0) l0) (hs1 : Kd.V (Kd.int .i64) 3 w w.heap.size (fun k_ => P1_ k_) (.slice A1 l1.length c1) l1) (h : impl_IsInSpan.f k l0 l1 = some r) :
  Calls Try.prog 30 #[.slice A0 l0.length c0, .slice A1 l1.length c1] w fun e w' => e = .returned (.bool r) ∧ Below w.heap.size w w' := by
 have HO0 := Aside0.mk (show Kd.V (Kd.slice 3 (Kd.int .i64)) 23 w w.heap.size (fun k_ => ((P0_ k_ ∨ P1_ k_) ∨ w.heap.size ≤ k_)) (.slice A0 l0.length c0) l0 from Kd.V_mono hs0 (fun k_ hk => .inl (.inl hk)))
 have HO1 := Aside0.mk (show Kd.V (Kd.int .i64) 3 w w.heap.size (fun k_ => ((P0_ k_ ∨ P1_ k_) ∨ w.heap.size ≤ k_)) (.slice A1 l1.length c1) l1 from Kd.V_mono hs1 (fun k_ hk => .inl (.inr hk)))
 have HB := Aside0.mk (Below.refl w.heap.size w)
 have H : ((impl_IsMatrix.f k l0 (l1.length : Int)).bind fun t138 => (if t138 = true then ((impl_IsMatrix.f k (([l1] : List (List Int))) (l1.length : Int)).bind fun t142 => (impl_IsInSpan.j0 k l0 l1 (l1.length : Int) (!t142))) else (impl_IsInSpan.j0 k l0 l1 (l1.length : Int) true))) = some r := h
 clear h
 have HC3 := Aside0.mk H
 clear H
 go_enter Try.func30, Try.ntmps30
 go_upto_region 2 with (fail)
 go_cut [18] (fun v18 wc => ∃ (kq : Nat) (x18_2 : Bool), v18 = .bool x18_2 ∧ Aside0 (impl_IsInSpan.j0 kq l0 l1 (l1.length : Int) x18_2 = some r) ∧ Aside0 (kq ≤ k) ∧ Aside0 (Kd.V (Kd.slice 3 (Kd.int .i64)) 23 wc w.heap.size (fun k_ => ((P0_ k_ ∨ P1_ k_) ∨ w.heap.size ≤ k_)) (.slice A0 l0.length c0) l0) ∧ Aside0 (Kd.V (Kd.int .i64) 3 wc w.heap.size (fun k_ => ((P0_ k_ ∨ P1_ k_) ∨ w.heap.size ≤ k_)) (.slice A1 l1.length c1) l1) ∧ Aside0 (Below w.heap.size w wc))
 case first =>
  have H := HC3.out
  clear HC3
  replace H := Option.bind_eq_some_iff.mp H
  obtain ⟨t138, A40, H⟩ := H
  replace H : (if t138 = true then ((impl_IsMatrix.f k (([l1] : List (List Int))) (l1.length : Int)).bind fun t142 => (impl_IsInSpan.j0 k l0 l1 (l1.length : Int) (!t142))) else (impl_IsInSpan.j0 k l0 l1 (l1.length : Int) true)) = some r := H
  have A4 := Aside0.mk A40
  clear A40
  by_cases c5 : t138 = true
  ·subst c5
   have H1 : ((impl_IsMatrix.f k (([l1] : List (List Int))) (l1.length : Int)).bind fun t142 => (impl_IsInSpan.j0 k l0 l1 (l1.length : Int) (!t142))) = some r := by rw [if_pos rfl] at H;exact H
   clear H
   have H := H1
   clear H1
   obtain ⟨y139, hy139⟩ : ∃ y_ : List (List Int), y_ = (([l1] : List (List Int))) := ⟨_, rfl⟩
   replace H : ((impl_IsMatrix.f k y139 (l1.length : Int)).bind fun t142 => (impl_IsInSpan.j0 k l0 l1 (l1.length : Int) (!t142))) = some r := by first|(rw [hy139];with_reducible exact H)|(have H2_ := (Option.bind_some _ _).symm.trans H;rw [hy139];with_reducible exact H2_)|(have H2_ := (Option.bind_some _ _).symm.trans H;with_reducible exact H2_)|with_reducible exact H|(rw [hy139];exact H)|exact H
   have Ny139 := Aside0.mk hy139
   clear hy139
   replace H := Option.bind_eq_some_iff.mp H
   obtain ⟨t142, A60, H⟩ := H
   replace H : (impl_IsInSpan.j0 k l0 l1 (l1.length : Int) (!t142)) = some r := H
   have A6 := Aside0.mk A60
   clear A60
   have H' := Aside0.mk H
   clear H
   go_wp2_with ((with_reducible refine gate_callee (f := 40) rfl ?_);refine goesL_ (some 10) rfl rfl Try.func40 (by kernel_rfl) rfl #[.slice A0 l0.length c0, .int .i64 (l1.length : Int)] rfl (by (try simp only [List.map_toArray, List.map_cons, List.map_nil]);first|done|rfl|(simp only [List.length_drop, List.length_take];rfl)) ?_;(with_reducible refine (impl_IsMatrix.calls k _ _ l0 (l1.length : Int) true _ ?side1 ?side2 A4.out).mono ?_);(case side1 => repeat (first|exact (Kd.V_reads' HO0.out).2.2|(with_reducible refine Kd.C_alloc ?_ _)|(with_reducible refine Kd.C_drewN ?_ _)|(with_reducible refine Kd.C_drew ?_)));(case side2 => exact (Kd.V_reads' HO0.out).2.1);rintro e w' ⟨rfl, ⟨nd, rfl⟩⟩;refine ⟨_, rfl, ?_⟩)
   have A6b := Aside0.mk (show impl_IsMatrix.f k ([l1] : List (List Int)) (l1.length : Int) = some t142 by rw [← Ny139.out];exact A6.out)
   refine (impl_IsMatrix.calls k _ _ ([l1] : List (List Int)) (l1.length : Int) t142 _ ?sideA ?sideB A6b.out).mono ?_
   case sideA => exact YtojkepidkmkmpaaRed.one_C (Kd.C_alloc (Kd.C_drewN (Kd.V_reads' HO1.out).2.2 _) _) (Kd.V_reads' HO1.out).2.1 (YtojkepidkmkmpaaRed.cell_new _ _ _)
   case sideB => exact Nat.le_refl _
   rintro e w' ⟨rfl, ⟨nd2_, rfl⟩⟩
   go_wp2
   go_meet
   case rel => exact ⟨_, (!t142), (by first|rfl|(simp;done)|(simp [*];done)), H', ⟨by first|omega|exact Nat.le_refl _⟩, ⟨by (with_reducible repeat (first|apply Kd.V_alloc|apply Kd.V_drewN|apply Kd.V_drew));(first|exact HO0.out|exact Kd.V_mono HO0.out (fun _ hk => hk.1))⟩, ⟨by (with_reducible repeat (first|apply Kd.V_alloc|apply Kd.V_drewN|apply Kd.V_drew));(first|exact HO1.out|exact Kd.V_mono HO1.out (fun _ hk => hk.1))⟩, ⟨by repeat (first|(with_reducible first|exact HB.out|apply below_alloc|apply pw_below_drewN|apply below_drew1)|exact HB.out)⟩⟩
  ·replace c5 := Bool.eq_false_iff.mpr c5
   subst c5
   have H1 : (impl_IsInSpan.j0 k l0 l1 (l1.length : Int) true) = some r := by rw [if_neg (show ¬ (false = true) by decide)] at H;exact H
   clear H
   have H := H1
   clear H1
   have H' := Aside0.mk H
   clear H
   go_wp2_with (first|((with_reducible refine gate_callee (f := 40) rfl ?_);refine goesL_ (some 10) rfl rfl Try.func40 (by kernel_rfl) rfl #[.slice A0 l0.length c0, .int .i64 (l1.length : Int)] rfl (by (try simp only [List.map_toArray, List.map_cons, List.map_nil]);first|done|rfl|(simp only [List.length_drop, List.length_take];rfl)) ?_;(with_reducible refine (impl_IsMatrix.calls k _ _ l0 (l1.length : Int) false _ ?side1 ?side2 A4.out).mono ?_);(case side1 => repeat (first|exact (Kd.V_reads' HO0.out).2.2|(with_reducible refine Kd.C_alloc ?_ _)|(with_reducible refine Kd.C_drewN ?_ _)|(with_reducible refine Kd.C_drew ?_)));(case side2 => exact (Kd.V_reads' HO0.out).2.1);rintro e w' ⟨rfl, ⟨nd, rfl⟩⟩;refine ⟨_, rfl, ?_⟩))
   go_meet
   case rel => exact ⟨_, (true), (by first|rfl|(simp;done)|(simp [*];done)), H', ⟨by first|omega|exact Nat.le_refl _⟩, ⟨by (with_reducible repeat (first|apply Kd.V_alloc|apply Kd.V_drewN|apply Kd.V_drew));exact HO0.out⟩, ⟨by (with_reducible repeat (first|apply Kd.V_alloc|apply Kd.V_drewN|apply Kd.V_drew));exact HO1.out⟩, ⟨by repeat (first|(with_reducible first|exact HB.out|apply below_alloc|apply pw_below_drewN|apply below_drew1)|exact HB.out)⟩⟩
 case rest =>
  clear HC3
  try clear c1
  try clear p2
  try clear c3
  try clear c4
  try clear c5
  obtain ⟨kq, x18_2, rfl, HA, HJ2, HO_0, HO_1, HB⟩ := hcut
  cases kq with
 |zero => exact absurd HA.out (by simp [impl_IsInSpan.j0])
 |succ kj2 =>
   have H := HA.out
   clear HA
   simp only [impl_IsInSpan.j0] at H
   by_cases c10 : x18_2 = true
   ·subst c10
    have H1 : (some false) = some r := by rw [if_pos rfl] at H;exact H
    clear H
    have H := H1
    clear H1
    obtain rfl := Option.some.inj H
    go_wp2
    go_ret
    exact ⟨by first|rfl|(simp [errW_none, errW_some] <;> rfl)|(simp [*, errW_none, errW_some] <;> rfl), by repeat (first|(with_reducible first|exact HB.out|apply below_alloc|apply pw_below_drewN|apply below_drew1)|exact HB.out)⟩
   ·replace c10 := Bool.eq_false_iff.mpr c10
    subst c10
    have H1 : ((impl_reduceAny.f kj2 l0 (l1.length : Int)).bind fun t143 => ((slices_Clone_int_int_78.f l0).bind fun t146 => (if t146.length < 5864062014805 then ((impl_reduceAny.f kj2 (t146 ++ [l1]) (l1.length : Int)).bind fun t152 => (some ((t143.length : Int) == (t152.length : Int)))) else (none)))) = some r := by rw [if_neg (show ¬ (false = true) by decide)] at H;exact H
    clear H
    have H := H1
    clear H1
    replace H := Option.bind_eq_some_iff.mp H
    obtain ⟨t143, A110, H⟩ := H
    replace H : ((slices_Clone_int_int_78.f l0).bind fun t146 => (if t146.length < 5864062014805 then ((impl_reduceAny.f kj2 (t146 ++ [l1]) (l1.length : Int)).bind fun t152 => (some ((t143.length : Int) == (t152.length : Int)))) else (none))) = some r := H
    have A11 := Aside0.mk A110
    clear A110
    replace H := Option.bind_eq_some_iff.mp H
    obtain ⟨t146, A120, H⟩ := H
    replace H : (if t146.length < 5864062014805 then ((impl_reduceAny.f kj2 (t146 ++ [l1]) (l1.length : Int)).bind fun t152 => (some ((t143.length : Int) == (t152.length : Int)))) else (none)) = some r := H
    have A12 := Aside0.mk A120
    clear A120
    by_cases c13 : t146.length < 5864062014805
    ·rw [if_pos c13] at H
     have LMc13 := Aside0.mk c13
     clear c13
     obtain ⟨y149, hy149⟩ : ∃ y_ : List (List Int), y_ = (t146 ++ [l1]) := ⟨_, rfl⟩
     replace H : ((impl_reduceAny.f kj2 y149 (l1.length : Int)).bind fun t152 => (some ((t143.length : Int) == (t152.length : Int)))) = some r := by first|(rw [hy149];with_reducible exact H)|(have H2_ := (Option.bind_some _ _).symm.trans H;rw [hy149];with_reducible exact H2_)|(have H2_ := (Option.bind_some _ _).symm.trans H;with_reducible exact H2_)|with_reducible exact H|(rw [hy149];exact H)|exact H
     have Ny149 := Aside0.mk hy149
     clear hy149
     replace H := Option.bind_eq_some_iff.mp H
     obtain ⟨t152, A140, H⟩ := H
     replace H : (some ((t143.length : Int) == (t152.length : Int))) = some r := H
     have A14 := Aside0.mk A140
     clear A140
     obtain rfl := Option.some.inj H
     go_wp2_with (first|((with_reducible refine gate_callee (f := 77) rfl ?_);refine goesL_ (some 21) rfl rfl Try.func77 (by kernel_rfl) rfl #[.slice A0 l0.length c0, .int .i64 (l1.length : Int)] rfl (by (try simp only [List.map_toArray, List.map_cons, List.map_nil]);first|done|rfl|(simp only [List.length_drop, List.length_take];rfl)) ?_;(with_reducible refine (impl_reduceAny.calls kj2 _ _ l0 (l1.length : Int) t143 _ ?side1 ?side2 A11.out).mono ?_);(case side1 => repeat (first|exact (Kd.V_reads' HO_0.out).2.2|(with_reducible refine Kd.C_alloc ?_ _)|(with_reducible refine Kd.C_drewN ?_ _)|(with_reducible refine Kd.C_drew ?_)));(case side2 => exact (Kd.V_reads' HO_0.out).2.1);rintro e w15 ⟨v144, rfl, ho0, hb⟩;refine ⟨_, rfl, ?_⟩;have n0_ := Aside0.mk (Kd.V_elder' (by (with_reducible repeat (first|apply Kd.V_alloc|apply Kd.V_drewN|apply Kd.V_drew));exact HO_0.out) (by first|exact Kd.N_base ho0|exact Kd.S_base ho0) hb);have n1_ := Aside0.mk (Kd.V_elder' (by (with_reducible repeat (first|apply Kd.V_alloc|apply Kd.V_drewN|apply Kd.V_drew));exact HO_1.out) (by first|exact Kd.N_base ho0|exact Kd.S_base ho0) hb);have n2_ := Aside0.mk (Kd.N_lower (Kd.N_mono (ok' := fun k_ => ((P0_ k_ ∨ P1_ k_) ∨ w.heap.size ≤ k_)) (Kd.S_N (Kd.S_bound ho0)) (fun k_ hk_ => (.inr (Nat.le_trans (below_size (by repeat first|(with_reducible first|exact HB.out|apply below_alloc|apply pw_below_drewN|apply below_drew1)|exact HB.out)) hk_.2.1)))) (below_size (by repeat first|(with_reducible first|exact HB.out|apply below_alloc|apply pw_below_drewN|apply below_drew1)|exact HB.out)));have n3_ := Aside0.mk (below_step (by repeat first|(with_reducible first|exact HB.out|apply below_alloc|apply pw_below_drewN|apply below_drew1)|exact HB.out) hb);clear HO_0;clear HO_1;clear HB;have HO_0 := n0_;have HO_1 := n1_;have HO145 := n2_;have HB := n3_;clear n0_ n1_ n2_ n3_;(try clear hb);(try clear hb2);(try clear hk);(try clear hi);(try clear ho0);obtain ⟨Ao16, co16, eo16⟩ := Kd.N_slice HO145.out;subst eo16)|((with_reducible refine gate_callee (f := 78) rfl ?_);refine goesL_ (some 24) rfl rfl Try.func78 (by kernel_rfl) rfl #[.slice A0 l0.length c0] rfl (by (try simp only [List.map_toArray, List.map_cons, List.map_nil]);first|done|rfl|(simp only [List.length_drop, List.length_take];rfl)) ?_;(with_reducible refine (slices_Clone_int_int_78.calls (fun k_ => (((P0_ k_ ∨ P1_ k_) ∨ w.heap.size ≤ k_) ∧ some k_ ≠ (.slice Ao16 t143.length co16 : Value).ownBlock)) _ _ l0 t146 _ ?side1 A12.out).mono ?_);(case side1 => exact HO_0.out);rintro e w17 ⟨v147, rfl, ho0, hb⟩;refine ⟨_, rfl, ?_⟩;have n0_ := Aside0.mk (Kd.V_elder' (by (with_reducible repeat (first|apply Kd.V_alloc|apply Kd.V_drewN|apply Kd.V_drew));exact HO_0.out) (by first|exact Kd.N_base ho0|exact Kd.S_base ho0) hb);have n1_ := Aside0.mk (Kd.V_elder' (by (with_reducible repeat (first|apply Kd.V_alloc|apply Kd.V_drewN|apply Kd.V_drew));exact HO_1.out) (by first|exact Kd.N_base ho0|exact Kd.S_base ho0) hb);have n2_ := Aside0.mk (Kd.N_elder' (by (with_reducible repeat (first|apply Kd.N_alloc|apply Kd.N_drewN|apply Kd.N_drew));exact HO145.out) (by first|exact Kd.N_base ho0|exact Kd.S_base ho0) hb);have n3_ := Aside0.mk (Kd.N_lower (Kd.N_mono (ok' := fun k_ => ((P0_ k_ ∨ P1_ k_) ∨ w.heap.size ≤ k_) ∧ some k_ ≠ (.slice Ao16 t143.length co16 : Value).ownBlock) ho0 (fun k_ hk_ => ⟨Or.elim hk_ (fun hs_ => hs_.1) (fun hn_ => (.inr (Nat.le_trans (below_size (by repeat first|(with_reducible first|exact HB.out|apply below_alloc|apply pw_below_drewN|apply below_drew1)|exact HB.out)) hn_))), Or.elim hk_ (fun hs_ => hs_.2) (fun hn_ => (Kd.fresh' (Kd.N_lt (by (with_reducible repeat (first|apply Kd.N_alloc|apply Kd.N_drewN|apply Kd.N_drew));exact HO145.out)) k_ hn_))⟩)) (below_size (by repeat first|(with_reducible first|exact HB.out|apply below_alloc|apply pw_below_drewN|apply below_drew1)|exact HB.out)));have n4_ := Aside0.mk (below_step (by repeat first|(with_reducible first|exact HB.out|apply below_alloc|apply pw_below_drewN|apply below_drew1)|exact HB.out) hb);clear HO_0;clear HO_1;clear HO145;clear HB;have HO_0 := n0_;have HO_1 := n1_;have HO145 := n2_;have HO148 := n3_;have HB := n4_;clear n0_ n1_ n2_ n3_ n4_;(try clear hb);(try clear hb2);(try clear hk);(try clear hi);(try clear ho0))|((with_reducible refine gate_builtin (b := .append) (xs := #[.tmp 24, .tmp 26]) rfl ?_);(try (refine gate_guard (by rfl) ?_;dsimp only));at_builtin;refine Kd.N_append (Kd.slice 3 (Kd.int .i64)) (w0 := w) w.heap.size rfl (.tmp 24) (.tmp 26) 22 23 (.slice none 0 0) 24 rfl Try.underlying22 info23 rfl (by decide) (by omega) v147 t146 l1 [.slice A1 l1.length c1] (fun k_ => ((P0_ k_ ∨ P1_ k_) ∨ w.heap.size ≤ k_) ∧ some k_ ≠ (.slice Ao16 t143.length co16 : Value).ownBlock) (fun k_ => ((fun k_ => ((P0_ k_ ∨ P1_ k_) ∨ w.heap.size ≤ k_) ∧ some k_ ≠ (.slice Ao16 t143.length co16 : Value).ownBlock)) k_ ∧ some k_ ≠ (v147 : Value).ownBlock) rfl rfl ?aP (fun _ hk => hk) ?aF ?aO ?aB ?aS ?aL ?_;(case aP => exact (Kd.FK_slice_mk (Kd.V_reads' (Kd.V_mono (ok' := (fun k_ => ((fun k_ => ((P0_ k_ ∨ P1_ k_) ∨ w.heap.size ≤ k_) ∧ some k_ ≠ (.slice Ao16 t143.length co16 : Value).ownBlock)) k_ ∧ some k_ ≠ (v147 : Value).ownBlock)) (HO_1.out) (fun k_ hk => ⟨⟨hk.1.1, hk.1.2⟩, hk.2⟩))).2.1 (Kd.V_F (Kd.V_mono (ok' := (fun k_ => ((fun k_ => ((P0_ k_ ∨ P1_ k_) ∨ w.heap.size ≤ k_) ∧ some k_ ≠ (.slice Ao16 t143.length co16 : Value).ownBlock)) k_ ∧ some k_ ≠ (v147 : Value).ownBlock)) (HO_1.out) (fun k_ hk => ⟨⟨hk.1.1, hk.1.2⟩, hk.2⟩)))));(case aB => exact (by repeat first|(with_reducible first|exact HB.out|apply below_alloc|apply pw_below_drewN|apply below_drew1)|exact HB.out));(case aF => exact (fun k_ hk => ⟨(.inr (Nat.le_trans (below_size (by repeat first|(with_reducible first|exact HB.out|apply below_alloc|apply pw_below_drewN|apply below_drew1)|exact HB.out)) hk)), Kd.fresh' (Kd.N_lt (by (with_reducible repeat (first|apply Kd.N_alloc|apply Kd.N_drewN|apply Kd.N_drew));exact HO145.out)) k_ hk⟩));(case aO => exact (by (with_reducible repeat (first|apply Kd.N_alloc|apply Kd.N_drewN|apply Kd.N_drew));exact HO148.out));(case aS => exact (below_size (by repeat first|(with_reducible first|exact HB.out|apply below_alloc|apply pw_below_drewN|apply below_drew1)|exact HB.out)));(case aL => have := LMc13.out;omega);intro v150 w18 ho hb hg hat;rw [← Ny149.out] at ho;have n0_ := Aside0.mk (Kd.V_afterv (ok := (fun k_ => ((P0_ k_ ∨ P1_ k_) ∨ w.heap.size ≤ k_) ∧ some k_ ≠ (.slice Ao16 t143.length co16 : Value).ownBlock)) (by (with_reducible repeat (first|apply Kd.V_alloc|apply Kd.V_drewN|apply Kd.V_drew));exact HO_0.out) hg hat);have n1_ := Aside0.mk (Kd.V_afterv (ok := (fun k_ => ((P0_ k_ ∨ P1_ k_) ∨ w.heap.size ≤ k_) ∧ some k_ ≠ (.slice Ao16 t143.length co16 : Value).ownBlock)) (by (with_reducible repeat (first|apply Kd.V_alloc|apply Kd.V_drewN|apply Kd.V_drew));exact HO_1.out) hg hat);have n2_ := Aside0.mk (Kd.N_afterv (ok := (fun k_ => ((P0_ k_ ∨ P1_ k_) ∨ w.heap.size ≤ k_))) (by (with_reducible repeat (first|apply Kd.N_alloc|apply Kd.N_drewN|apply Kd.N_drew));exact HO145.out) hg hat);have n3_ := Aside0.mk (hb);have n4_ := Aside0.mk (ho);clear HO_0;clear HO_1;clear HO145;clear HB;clear HO148;have HO_0 := n0_;have HO_1 := n1_;have HO145 := n2_;have HB := n3_;have HO151 := n4_;clear n0_ n1_ n2_ n3_ n4_;clear ho hb hg hat;obtain ⟨Ao19, co19, eo19⟩ := Kd.N_slice HO151.out;subst eo19)|((with_reducible refine gate_callee (f := 77) rfl ?_);refine goesL_ (some 29) rfl rfl Try.func77 (by kernel_rfl) rfl #[.slice Ao19 y149.length co19, .int .i64 (l1.length : Int)] rfl (by (try simp only [List.map_toArray, List.map_cons, List.map_nil]);first|done|rfl|(simp only [List.length_drop, List.length_take];rfl)) ?_;(with_reducible refine (impl_reduceAny.calls kj2 _ _ y149 (l1.length : Int) t152 _ ?side1 ?side2 A14.out).mono ?_);(case side1 => repeat (first|exact (Kd.N_reads' HO151.out).2.2|(with_reducible refine Kd.C_alloc ?_ _)|(with_reducible refine Kd.C_drewN ?_ _)|(with_reducible refine Kd.C_drew ?_)));(case side2 => exact (Kd.N_reads' HO151.out).2.1);rintro e w20 ⟨v153, rfl, ho0, hb⟩;refine ⟨_, rfl, ?_⟩;have n0_ := Aside0.mk (Kd.V_elder' (by (with_reducible repeat (first|apply Kd.V_alloc|apply Kd.V_drewN|apply Kd.V_drew));exact HO_0.out) (by first|exact Kd.N_base ho0|exact Kd.S_base ho0) hb);have n1_ := Aside0.mk (Kd.V_elder' (by (with_reducible repeat (first|apply Kd.V_alloc|apply Kd.V_drewN|apply Kd.V_drew));exact HO_1.out) (by first|exact Kd.N_base ho0|exact Kd.S_base ho0) hb);have n2_ := Aside0.mk (Kd.N_elder' (by (with_reducible repeat (first|apply Kd.N_alloc|apply Kd.N_drewN|apply Kd.N_drew));exact HO145.out) (by first|exact Kd.N_base ho0|exact Kd.S_base ho0) hb);have n3_ := Aside0.mk (Kd.N_elder' (by (with_reducible repeat (first|apply Kd.N_alloc|apply Kd.N_drewN|apply Kd.N_drew));exact HO151.out) (by first|exact Kd.N_base ho0|exact Kd.S_base ho0) hb);have n4_ := Aside0.mk (Kd.N_lower (Kd.N_mono (ok' := fun k_ => ((P0_ k_ ∨ P1_ k_) ∨ w.heap.size ≤ k_) ∧ some k_ ≠ (.slice Ao16 t143.length co16 : Value).ownBlock ∧ some k_ ≠ (.slice Ao19 y149.length co19 : Value).ownBlock) (Kd.S_N (Kd.S_bound ho0)) (fun k_ hk_ => ⟨(.inr (Nat.le_trans (below_size (by repeat first|(with_reducible first|exact HB.out|apply below_alloc|apply pw_below_drewN|apply below_drew1)|exact HB.out)) hk_.2.1)), (Kd.fresh' (Kd.N_lt (by (with_reducible repeat (first|apply Kd.N_alloc|apply Kd.N_drewN|apply Kd.N_drew));exact HO145.out)) k_ hk_.2.1), (Kd.fresh' (Kd.N_lt (by (with_reducible repeat (first|apply Kd.N_alloc|apply Kd.N_drewN|apply Kd.N_drew));exact HO151.out)) k_ hk_.2.1)⟩)) (below_size (by repeat first|(with_reducible first|exact HB.out|apply below_alloc|apply pw_below_drewN|apply below_drew1)|exact HB.out)));have n5_ := Aside0.mk (below_step (by repeat first|(with_reducible first|exact HB.out|apply below_alloc|apply pw_below_drewN|apply below_drew1)|exact HB.out) hb);clear HO_0;clear HO_1;clear HO145;clear HO151;clear HB;have HO_0 := n0_;have HO_1 := n1_;have HO145 := n2_;have HO151 := n3_;have HO154 := n4_;have HB := n5_;clear n0_ n1_ n2_ n3_ n4_ n5_;(try clear hb);(try clear hb2);(try clear hk);(try clear hi);(try clear ho0);obtain ⟨Ao21, co21, eo21⟩ := Kd.N_slice HO154.out;subst eo21))
     go_ret
     exact ⟨by first|rfl|(simp [errW_none, errW_some] <;> rfl)|(simp [*, errW_none, errW_some] <;> rfl), by repeat (first|(with_reducible first|exact HB.out|apply below_alloc|apply pw_below_drewN|apply below_drew1)|exact HB.out)⟩
    ·rw [if_neg c13] at H
     exact absurd H (by simp)
theorem impl_IsInSpan.calls (k : Nat) (A0 : Option Addr) (c0 : Nat) (l0 : List (List Int)) (A1 : Option Addr) (c1 : Nat) (l1 : List Int) (r : Bool) (w : World) (hr0 : Kd.C (Kd.slice 3 (Kd.int .i64)) w A0 l0.length l0) (hc0 : l0.length ≤ c0) (hr1 : Kd.C (Kd.int .i64) w A1 l1.length l1) (hc1 : l1.length ≤ c1) (h : impl_IsInSpan.f k l0 l1 = some r) :
  Calls Try.prog 30 #[.slice A0 l0.length c0, .slice A1 l1.length c1] w fun e w' => e = .returned (.bool r) ∧ Below w.heap.size w w' :=
 impl_IsInSpan.callsV k (fun k_ => k_ < w.heap.size) _ _ l0 (fun k_ => k_ < w.heap.size) _ _ l1 r w (Kd.V_mk hc0 (Kd.C_F (Kd.heap_slice _ (Kd.heap_int _)) hr0)) (Kd.V_mk hc1 (Kd.C_F (Kd.heap_int _) hr1)) h
end Go.Proofs.Ytojkepidkmkmpaa.PFnRows
end
section
namespace Go.Proofs.Ytojkepidkmkmpaa.PFnRows
open Go.Proofs.YtojkepidkmkmpaaW.PrintWords.Aside0 renaming mk → aM
open List renaming setIfInBounds_toArray → qa, set_cons_zero → qz, set_cons_succ → qs
open Bool renaming true → tt, false → ff
open Option renaming bind_eq_some_iff → bE

open Go.RowKit Go.Proofs.YtojkepidkmkmpaaW.PrintWords Go.Proofs.YtojkepidkmkmpaaW.PrintLast Go.Proofs.YtojkepidkmkmpaaW.PrintMore
attribute [local go_sem] max2_int min2_int max_two min_two max_three min_three max_four min_four
set_option linter.unusedVariables false
set_option linter.unusedSimpArgs false
def IsS89 (w0 W : World) (g : Nat) (f0 : List Int) (f1 : Int) (f2 : Int) : Prop := ∃ A0 c0, W.heap[g]? = some (.cells #[.slice A0 f0.length c0, .int .i64 f1, .int .i64 f2] 89 (0, 0)) ∧ w0.heap.size ≤ g ∧ Kd.C (Kd.int .u8) w0 A0 f0.length f0
theorem IsS89.grown {w0 W : World} {g : Nat} {f0 : List Int} {f1 : Int} {f2 : Int} {W1 : World} {row : Option Nat} (h : IsS89 w0 W g f0 f1 f2) (hw : W.grownBy W1 row) (hne : some g ≠ row) : IsS89 w0 W1 g f0 f1 f2 := by
 obtain ⟨A0, c0, hb, hg, hr0⟩ := h
 exact ⟨A0, c0, blk_grown hb hw hne, hg, hr0⟩
theorem IsS89.below {w0 W : World} {g : Nat} {f0 : List Int} {f1 : Int} {f2 : Int} {W1 : World} (h : IsS89 w0 W g f0 f1 f2) (hw : Below W.heap.size W W1) : IsS89 w0 W1 g f0 f1 f2 := h.grown (grown_of_below hw none) (by simp)
theorem IsS89.alloc {w0 W : World} {g : Nat} {f0 : List Int} {f1 : Int} {f2 : Int} (h : IsS89 w0 W g f0 f1 f2) (o : Obj) : IsS89 w0 (W.alloc o) g f0 f1 f2 := h.below (below_alloc (Below.refl _ _) o)
theorem IsS89.drewN {w0 W : World} {g : Nat} {f0 : List Int} {f1 : Int} {f2 : Int} (h : IsS89 w0 W g f0 f1 f2) (m : Nat) : IsS89 w0 (W.drewN m) g f0 f1 f2 := h
theorem IsS89.drew {w0 W : World} {g : Nat} {f0 : List Int} {f1 : Int} {f2 : Int} (h : IsS89 w0 W g f0 f1 f2) : IsS89 w0 W.drew g f0 f1 f2 := h
theorem IsS89.apart {w0 W : World} {g : Nat} {f0 : List Int} {f1 : Int} {f2 : Int} {α : Type} {d : Kd α} {e : Nat} {base : Nat} {ok : Nat → Prop} {v : Value} {xs : List α} (h : IsS89 w0 W g f0 f1 f2) (ho : d.R e W base ok v xs) (ht : ∀ q, q ∈ e :: d.E → q ≠ 89) : d.R e W base (fun k => ok k ∧ k ≠ g) v xs := by
 obtain ⟨A0, c0, hb, hg, hr0⟩ := h
 exact Kd.R_types ho hb ht
theorem IsS89.own_ne {w0 W : World} {g : Nat} {f0 : List Int} {f1 : Int} {f2 : Int} {α : Type} {d : Kd α} {e : Nat} {base : Nat} {ok : Nat → Prop} {v : Value} {xs : List α} (h : IsS89 w0 W g f0 f1 f2) (ho : d.R e W base ok v xs) (ht : e ≠ 89) : some g ≠ v.ownBlock := by
 obtain ⟨A0, c0, hb, hg, hr0⟩ := h
 exact Kd.R_ne ho hb ht
theorem IsS89.apartS {w0 W : World} {g : Nat} {f0 : List Int} {f1 : Int} {f2 : Int} {α : Type} {d : Kd α} {e : Nat} {base : Nat} {ok : Nat → Prop} {v : Value} {xs : List α} (h : IsS89 w0 W g f0 f1 f2) (ho : d.S e W base ok v xs) (ht : ∀ q, q ∈ e :: d.E → q ≠ 89) : d.S e W base (fun k => ok k ∧ k ≠ g) v xs := by
 obtain ⟨A0, c0, hb, hg, hr0⟩ := h
 exact Kd.S_types ho hb ht
theorem IsS89.own_neS {w0 W : World} {g : Nat} {f0 : List Int} {f1 : Int} {f2 : Int} {α : Type} {d : Kd α} {e : Nat} {base : Nat} {ok : Nat → Prop} {v : Value} {xs : List α} (h : IsS89 w0 W g f0 f1 f2) (ho : d.S e W base ok v xs) (ht : e ≠ 89) : some g ≠ v.ownBlock := by
 obtain ⟨A0, c0, hb, hg, hr0⟩ := h
 exact Kd.S_ne ho hb ht
theorem IsS89.lt {w0 W : World} {g : Nat} {f0 : List Int} {f1 : Int} {f2 : Int} (h : IsS89 w0 W g f0 f1 f2) : g < W.heap.size := by
 obtain ⟨A0, c0, hb, hg, hr0⟩ := h
 exact blk_lt hb
theorem IsS89.ge {w0 W : World} {g : Nat} {f0 : List Int} {f1 : Int} {f2 : Int} (h : IsS89 w0 W g f0 f1 f2) : w0.heap.size ≤ g := by
 obtain ⟨A0, c0, hb, hg, hr0⟩ := h
 exact hg
theorem IsS89.far {w0 W : World} {g : Nat} {f0 : List Int} {f1 : Int} {f2 : Int} {p : Addr} (h : IsS89 w0 W g f0 f1 f2) (hne : g ≠ p.block) (u : Value) : IsS89 w0 (W.setCell p u) g f0 f1 f2 := by
 obtain ⟨A0, c0, hb, hg, hr0⟩ := h
 exact ⟨A0, c0, blk_far hb hne u, hg, hr0⟩
theorem cellS89_0 {W : World} {g : Nat} {A0 : Option Addr} {c0 : Nat} {f0 : List Int} {f1 : Int} {f2 : Int} (h : W.heap[g]? = some (.cells #[.slice A0 f0.length c0, .int .i64 f1, .int .i64 f2] 89 (0, 0))) : W.cell? ⟨g, 0, none⟩ = some (.slice A0 f0.length c0) := (blk_cell h 0).trans rfl
theorem cellS89_1 {W : World} {g : Nat} {A0 : Option Addr} {c0 : Nat} {f0 : List Int} {f1 : Int} {f2 : Int} (h : W.heap[g]? = some (.cells #[.slice A0 f0.length c0, .int .i64 f1, .int .i64 f2] 89 (0, 0))) : W.cell? ⟨g, 1, none⟩ = some (.int .i64 f1) := (blk_cell h 1).trans rfl
theorem IsS89.set_1 {w0 W : World} {g : Nat} {f0 : List Int} {f1 : Int} {f2 : Int} (h : IsS89 w0 W g f0 f1 f2) (x : Int) : IsS89 w0 (W.setCell ⟨g, 1, none⟩ (.int .i64 x)) g f0 x f2 := by
 obtain ⟨A0, c0, hb, hg, hr0⟩ := h
 exact ⟨A0, c0, by simpa using blk_set hb 1 (.int .i64 x), hg, hr0⟩
theorem cellS89_2 {W : World} {g : Nat} {A0 : Option Addr} {c0 : Nat} {f0 : List Int} {f1 : Int} {f2 : Int} (h : W.heap[g]? = some (.cells #[.slice A0 f0.length c0, .int .i64 f1, .int .i64 f2] 89 (0, 0))) : W.cell? ⟨g, 2, none⟩ = some (.int .i64 f2) := (blk_cell h 2).trans rfl
theorem IsS89.set_2 {w0 W : World} {g : Nat} {f0 : List Int} {f1 : Int} {f2 : Int} (h : IsS89 w0 W g f0 f1 f2) (x : Int) : IsS89 w0 (W.setCell ⟨g, 2, none⟩ (.int .i64 x)) g f0 f1 x := by
 obtain ⟨A0, c0, hb, hg, hr0⟩ := h
 exact ⟨A0, c0, by simpa using blk_set hb 2 (.int .i64 x), hg, hr0⟩
def spec_l1New.l0 : Nat → List Int → Int → Int → Option (List Int × Int × Int)
 | 0, _, _, _ => none
 | k + 1, x0, x3, x4 => if x4 < (x0.length : Int) then (if x4 < 4000 then (if 0 ≤ x4 then (spec_l1New.l0 k x0 (Go.bits .and .i64 (wrap64 ((wrap64 ((wrap64 (x3 * 137)) + (wrap64 (rd x0 x4)))) + 11)) 1073741823) (wrap64 (x4 + 1))) else (none)) else (some (x0, 0, x3))) else (some (x0, 0, x3))
def spec_l1New.f (k : Nat) (l0 : List Int) : Option (List Int × Int × Int) := spec_l1New.l0 k l0 (wrap64 (193017 + (l0.length : Int))) 0
set_option maxHeartbeats 8000000 in
set_option maxRecDepth 100000 in
theorem spec_l1New.calls (k : Nat) (A0 : Option Addr) (c0 : Nat) (l0 : List Int) (r1 : List Int) (r2 : Int) (r3 : Int) (w0 w : World) (hB : Below w0.heap.size w0 w) (hr0 : Kd.C (Kd.int .u8) w0 A0 l0.length l0) (hc0 : l0.length ≤ c0) (h : spec_l1New.f k l0 = some (r1, r2, r3)) :
 Calls Try.prog 62 #[.slice A0 l0.length c0] w fun e w' => ∃ g_ : Nat, e = .returned (.pointer (some ⟨g_, 0, none⟩)) ∧ IsS89 w0 w' g_ r1 r2 r3 ∧ Below w0.heap.size w0 w' ∧ Below w.heap.size w w' := by
 have hu89:=Try.underlying89;have HR0:=aM hr0;have HC0:=aM hc0;clear hr0 hc0;have HBW:=aM (Below.refl w.heap.size w);have HW0:=aM hB.size;have HB:=aM hB;clear hB;have H:(spec_l1New.l0 k l0 (wrap64 (193017+(l0.length:Int))) 0)=some (r1,r2,r3):=h;clear h;have H':=aM H;clear H;go_enter Try.func62,Try.ntmps62;go_wp2;go_loopg [3,4] k (fun kq v3 v4 w'=>∃(x3_1:Int) (x4_1:Int),v3 = .int .i64 x3_1∧v4 = .int .i64 x4_1∧Aside0 (spec_l1New.l0 kq l0 x3_1 x4_1=some (r1,r2,r3))∧Aside0 (kq≤k)∧Aside0 (Below w0.heap.size w0 w')∧Aside0 (Below w.heap.size w w'));(case atStart=>exact ⟨(wrap64 (193017+(l0.length:Int))),(0),zt,zt,H',⟨Nat.le_refl _⟩,⟨zb HB.out⟩,⟨zb HBW.out⟩⟩)
 case round=>
  clear H' HBW;obtain ⟨x3_1,x4_1,rfl,rfl,HA,HK1,HB,HBW⟩:=hrel;cases gk with
  | zero=>exact absurd HA.out (by simp [spec_l1New.l0])
  | succ k1=>
   have H:=HA.out;clear HA;simp only [spec_l1New.l0] at H;by_cases c2:x4_1<(l0.length:Int)
   ·rw [if_pos c2] at H;have c2b0:decide (x4_1<(l0.length:Int))=true:=decide_eq_true c2;clear c2;by_cases c3:x4_1<4000
    ·rw [if_pos c3] at H;have c3b0:decide (x4_1<4000)=true:=decide_eq_true c3;clear c3;obtain ⟨c4b0,H⟩:=iN H;have H':=aM H;clear H;have p141:0≤(x4_1:Int):=zd;have q141:x4_1<(l0.length:Int):=zd;obtain ⟨ad141,e141,hx141_0⟩:=Kd.at_int HR0.out x4_1 p141 q141;cases e141;replace hx141_0:=pw_cell_below HB.out hx141_0;replace p141:=eq_true p141;replace q141:=eq_true q141;go_wp2;go_roundg k1;(case measure=>have:=HK1.out;omega);(case rel=>exact ⟨(Go.bits .and .i64 (wrap64 ((wrap64 ((wrap64 (x3_1*137))+(wrap64 (rd l0 x4_1))))+11)) 1073741823),(wrap64 (x4_1+1)),zt,zt,H',⟨by have:=HK1.out;omega⟩,⟨zb HB.out⟩,⟨zb HBW.out⟩⟩)
    ·rw [if_neg c3] at H;have c3b0:decide (x4_1<4000)=false:=decide_eq_false c3;clear c3;simp only [Option.some.injEq,Prod.mk.injEq] at H;obtain ⟨rfl,rfl,rfl⟩:=H;go_wp2_with (first|((with_reducible refine gate_dst (N:=31) rfl ?_);refine box_event ?hg (N:=31) ?hd (cs:=#[.slice A0 l0.length c0,.int .i64 0,.int .i64 x3_1]) (t:=89) ?hr ?_;(case hd=>rfl);(case hg=>rfl);(case hr=>first|(go_simp;done)|(go_simp;rfl));intro gb142 hg w5 hbox hb;replace HB:=aM (below_step (zb HB.out) hb);have BK142:=aM (hbox);have GW142:=aM ((zg hg (zb HBW.out)));have GE142:=aM ((Nat.le_trans HW0.out (zg hg (zb HBW.out)):w0.heap.size≤gb142));replace HBW:=aM (below_step HBW.out hb);clear hb hbox hg));go_ret;exact ⟨_,rfl,(show IsS89 w0 _ gb142 l0 0 x3_1 from ⟨_,_,zk BK142.out,GE142.out,HR0.out⟩),zs HB.out,zs HBW.out⟩
   ·rw [if_neg c2] at H;have c2b0:decide (x4_1<(l0.length:Int))=false:=decide_eq_false c2;clear c2;simp only [Option.some.injEq,Prod.mk.injEq] at H;obtain ⟨rfl,rfl,rfl⟩:=H;go_wp2_with (first|((with_reducible refine gate_dst (N:=31) rfl ?_);refine box_event ?hg (N:=31) ?hd (cs:=#[.slice A0 l0.length c0,.int .i64 0,.int .i64 x3_1]) (t:=89) ?hr ?_;(case hd=>rfl);(case hg=>rfl);(case hr=>first|(go_simp;done)|(go_simp;rfl));intro gb143 hg w6 hbox hb;replace HB:=aM (below_step (zb HB.out) hb);have BK143:=aM (hbox);have GW143:=aM ((zg hg (zb HBW.out)));have GE143:=aM ((Nat.le_trans HW0.out (zg hg (zb HBW.out)):w0.heap.size≤gb143));replace HBW:=aM (below_step HBW.out hb);clear hb hbox hg));go_ret;exact ⟨_,rfl,(show IsS89 w0 _ gb143 l0 0 x3_1 from ⟨_,_,zk BK143.out,GE143.out,HR0.out⟩),zs HB.out,zs HBW.out⟩
def spec_l1Byte.f (s0_0 : List Int) (s0_1 : Int) (s0_2 : Int) : Option (Int × Int × Int) := if s0_1 < (s0_0.length : Int) then (if 0 ≤ s0_1 then (some (Go.bits .and .i64 (wrap64 ((Go.bits .and .i64 (Go.bits .xor .i64 ((wrap64 ((wrap64 (s0_2 * 6364136223846793005)) + 1442695040888963407)) / 8589934592) ((wrap64 ((wrap64 (s0_2 * 6364136223846793005)) + 1442695040888963407)) / 140737488355328)) 255) + (wrap64 (rd s0_0 s0_1)))) 255, wrap64 (s0_1 + 1), wrap64 ((wrap64 (s0_2 * 6364136223846793005)) + 1442695040888963407))) else (none)) else (some (Go.bits .and .i64 (Go.bits .xor .i64 ((wrap64 ((wrap64 (s0_2 * 6364136223846793005)) + 1442695040888963407)) / 8589934592) ((wrap64 ((wrap64 (s0_2 * 6364136223846793005)) + 1442695040888963407)) / 140737488355328)) 255, s0_1, wrap64 ((wrap64 (s0_2 * 6364136223846793005)) + 1442695040888963407)))
set_option maxHeartbeats 8000000 in
set_option maxRecDepth 100000 in
theorem spec_l1Byte.calls (g : Nat) (s0_0 : List Int) (s0_1 : Int) (s0_2 : Int) (r1 : Int) (r2 : Int) (r3 : Int) (w0 w : World) (hI : IsS89 w0 w g s0_0 s0_1 s0_2) (hB : Below w0.heap.size w0 w) (h : spec_l1Byte.f s0_0 s0_1 s0_2 = some (r1, r2, r3)) :
 Calls Try.prog 98 #[.pointer (some ⟨g, 0, none⟩)] w fun e w' => e = .returned (.int .i64 r1) ∧ IsS89 w0 w' g s0_0 r2 r3 ∧ Below w0.heap.size w0 w' ∧ KeepBut w w' g none := by
 have HI0:=aM hI;have HK:=aM (KeepBut.refl w g none);have HL:=aM hB.size;clear hI;have HW0:=aM hB.size;have HB:=aM hB;clear hB;have H:(if s0_1<(s0_0.length:Int) then (if 0≤s0_1 then (some (Go.bits .and .i64 (wrap64 ((Go.bits .and .i64 (Go.bits .xor .i64 ((wrap64 ((wrap64 (s0_2*6364136223846793005))+1442695040888963407)) / 8589934592) ((wrap64 ((wrap64 (s0_2*6364136223846793005))+1442695040888963407)) / 140737488355328)) 255)+(wrap64 (rd s0_0 s0_1)))) 255,wrap64 (s0_1+1),wrap64 ((wrap64 (s0_2*6364136223846793005))+1442695040888963407))) else (none)) else (some (Go.bits .and .i64 (Go.bits .xor .i64 ((wrap64 ((wrap64 (s0_2*6364136223846793005))+1442695040888963407)) / 8589934592) ((wrap64 ((wrap64 (s0_2*6364136223846793005))+1442695040888963407)) / 140737488355328)) 255,s0_1,wrap64 ((wrap64 (s0_2*6364136223846793005))+1442695040888963407))))=some (r1,r2,r3):=h;clear h;by_cases c2:s0_1<(s0_0.length:Int)
 ·rw [if_pos c2] at H;have c2b0:decide (s0_1<(s0_0.length:Int))=true:=decide_eq_true c2;clear c2;obtain ⟨c3b0,H⟩:=iN H;simp only [Option.some.injEq,Prod.mk.injEq] at H;obtain ⟨rfl,rfl,rfl⟩:=H;obtain ⟨ASz4_0,cSz4_0,HGz4,hgz4,HSz4_0⟩:=HI0.out;have hcz4_0:=cellS89_0 HGz4;have hcz4_1:=cellS89_1 HGz4;have hcz4_2:=cellS89_2 HGz4;have hfz4_1:=blk_frozen HGz4 1;have hfz4_2:=blk_frozen HGz4 2;clear HGz4 hgz4;have p144:0≤(s0_1:Int):=zd;have q144:s0_1<(s0_0.length:Int):=zd;obtain ⟨ad144,e144,hx144_0⟩:=Kd.at_int HSz4_0 s0_1 p144 q144;cases e144;have hn144_0:ad144.block≠g:=Nat.ne_of_lt (Nat.lt_of_lt_of_le (by have:=World.block_lt_of_cell? _ _ hx144_0;first|rwa [add_block] at this|exact this) (IsS89.ge HI0.out));replace hx144_0:=pw_cell_below HB.out hx144_0;replace hx144_0:=(cell_far (p:=⟨g,2,none⟩) (by first|(rw [add_block];exact hn144_0)|(show (Addr.add _ _).block≠_;rw [add_block];exact hn144_0)|exact hn144_0) (.int .i64 (wrap64 ((wrap64 (s0_2*6364136223846793005))+1442695040888963407)))).trans hx144_0;(try have hy144_0:=fun (n_:Nat)=>(show (((w.drewN n_).setCell ⟨g,2,none⟩ (.int .i64 (wrap64 ((wrap64 (s0_2*6364136223846793005))+1442695040888963407))))).cell? _=some _ from hx144_0));clear hn144_0;replace p144:=eq_true p144;replace q144:=eq_true q144;go_enter Try.func98,Try.ntmps98;go_wp2;(repeat (go_quiet (fail);try go_wp2));go_ret;exact ⟨by first|rfl|(simp [errW_none,errW_some]<;>rfl)|(simp [*,errW_none,errW_some]<;>rfl),by repeat (first|(with_reducible first|exact HI0.out|apply IsS89.alloc|apply IsS89.drewN|apply IsS89.drew|apply IsS89.set_1|apply IsS89.set_2)|exact HI0.out),by repeat (first|(with_reducible first|exact HB.out|apply below_alloc|apply pw_below_drewN|apply below_drew1|refine below_set ?_ (IsS89.ge HI0.out))|exact HB.out),by repeat (first|(with_reducible first|exact HK.out|apply KeepBut.set_|apply keep_drewN|apply keep_drew|apply keep_alloc)|exact HK.out)⟩
 ·rw [if_neg c2] at H;have c2b0:decide (s0_1<(s0_0.length:Int))=false:=decide_eq_false c2;clear c2;simp only [Option.some.injEq,Prod.mk.injEq] at H;obtain ⟨rfl,rfl,rfl⟩:=H;obtain ⟨ASz5_0,cSz5_0,HGz5,hgz5,HSz5_0⟩:=HI0.out;have hcz5_0:=cellS89_0 HGz5;have hcz5_1:=cellS89_1 HGz5;have hcz5_2:=cellS89_2 HGz5;have hfz5_1:=blk_frozen HGz5 1;have hfz5_2:=blk_frozen HGz5 2;clear HGz5 hgz5;go_enter Try.func98,Try.ntmps98;go_wp2;(repeat (go_quiet (fail);try go_wp2));go_ret;exact ⟨by first|rfl|(simp [errW_none,errW_some]<;>rfl)|(simp [*,errW_none,errW_some]<;>rfl),by repeat (first|(with_reducible first|exact HI0.out|apply IsS89.alloc|apply IsS89.drewN|apply IsS89.drew|apply IsS89.set_1|apply IsS89.set_2)|exact HI0.out),by repeat (first|(with_reducible first|exact HB.out|apply below_alloc|apply pw_below_drewN|apply below_drew1|refine below_set ?_ (IsS89.ge HI0.out))|exact HB.out),by repeat (first|(with_reducible first|exact HK.out|apply KeepBut.set_|apply keep_drewN|apply keep_drew|apply keep_alloc)|exact HK.out)⟩
def spec_l1Below.f (s0_0 : List Int) (s0_1 : Int) (s0_2 : Int) (a1 : Int) : Option (Int × Int × Int) := if a1 ≤ 0 then (some (0, s0_1, s0_2)) else (if a1 ≤ 256 then ((spec_l1Byte.f s0_0 s0_1 s0_2).bind fun bt145 => (if a1 = 0 then (none) else (some (Int.tmod bt145.1 a1, bt145.2.1, bt145.2.2)))) else ((spec_l1Byte.f s0_0 s0_1 s0_2).bind fun bt148 => ((spec_l1Byte.f s0_0 bt148.2.1 bt148.2.2).bind fun bt151 => ((spec_l1Byte.f s0_0 bt151.2.1 bt151.2.2).bind fun bt154 => (if a1 = 0 then (none) else (some (Int.tmod (wrap64 ((wrap64 ((wrap64 (bt148.1 * 65536)) + (wrap64 (bt151.1 * 256)))) + bt154.1)) a1, bt154.2.1, bt154.2.2)))))))
set_option maxHeartbeats 8000000 in
set_option maxRecDepth 100000 in
theorem spec_l1Below.calls (g : Nat) (s0_0 : List Int) (s0_1 : Int) (s0_2 : Int) (a1 : Int) (r1 : Int) (r2 : Int) (r3 : Int) (w0 w : World) (hI : IsS89 w0 w g s0_0 s0_1 s0_2) (hB : Below w0.heap.size w0 w) (h : spec_l1Below.f s0_0 s0_1 s0_2 a1 = some (r1, r2, r3)) :
 Calls Try.prog 63 #[.pointer (some ⟨g, 0, none⟩), .int .i64 a1] w fun e w' => e = .returned (.int .i64 r1) ∧ IsS89 w0 w' g s0_0 r2 r3 ∧ Below w0.heap.size w0 w' ∧ KeepBut w w' g none := by
 have HI0:=aM hI;have HK:=aM (KeepBut.refl w g none);have HL:=aM hB.size;clear hI;have HW0:=aM hB.size;have HB:=aM hB;clear hB;have H:(if a1≤0 then (some (0,s0_1,s0_2)) else (if a1≤256 then ((spec_l1Byte.f s0_0 s0_1 s0_2).bind fun bt145=>(if a1=0 then (none) else (some (Int.tmod bt145.1 a1,bt145.2.1,bt145.2.2)))) else ((spec_l1Byte.f s0_0 s0_1 s0_2).bind fun bt148=>((spec_l1Byte.f s0_0 bt148.2.1 bt148.2.2).bind fun bt151=>((spec_l1Byte.f s0_0 bt151.2.1 bt151.2.2).bind fun bt154=>(if a1=0 then (none) else (some (Int.tmod (wrap64 ((wrap64 ((wrap64 (bt148.1*65536))+(wrap64 (bt151.1*256))))+bt154.1)) a1,bt154.2.1,bt154.2.2))))))))=some (r1,r2,r3):=h;clear h;by_cases c3:a1≤0
 ·rw [if_pos c3] at H;have c3b0:decide (a1≤0)=true:=decide_eq_true c3;clear c3;simp only [Option.some.injEq,Prod.mk.injEq] at H;obtain ⟨rfl,rfl,rfl⟩:=H;go_enter Try.func63,Try.ntmps63;go_wp2;go_ret;exact ⟨by first|rfl|(simp [errW_none,errW_some]<;>rfl)|(simp [*,errW_none,errW_some]<;>rfl),by repeat (first|(with_reducible first|exact HI0.out|apply IsS89.alloc|apply IsS89.drewN|apply IsS89.drew|apply IsS89.set_1|apply IsS89.set_2)|exact HI0.out),by repeat (first|(with_reducible first|exact HB.out|apply below_alloc|apply pw_below_drewN|apply below_drew1|refine below_set ?_ (IsS89.ge HI0.out))|exact HB.out),by repeat (first|(with_reducible first|exact HK.out|apply KeepBut.set_|apply keep_drewN|apply keep_drew|apply keep_alloc)|exact HK.out)⟩
 ·rw [if_neg c3] at H;have c3b0:decide (a1≤0)=false:=decide_eq_false c3;clear c3;by_cases c4:a1≤256
  ·rw [if_pos c4] at H;have c4b0:decide (a1≤256)=true:=decide_eq_true c4;clear c4;obtain ⟨⟨t145,t146,t147⟩,A5,H⟩:=bz H;dsimp only at H;by_cases c6:a1=0
   ·rw [if_pos c6] at H;exact absurd H (by simp)
   ·rw [if_neg c6] at H;have c6b0:(a1 == 0)=false:=beq_eq_false_iff_ne.mpr c6;have c6b1:(a1 != 0)=true:=bne_iff_ne.mpr c6;simp only [Option.some.injEq,Prod.mk.injEq] at H;obtain ⟨rfl,rfl,rfl⟩:=H;go_enter Try.func63,Try.ntmps63;go_wp2_with (first|((with_reducible refine gate_callee (f:=98) rfl ?_);refine gm (some 13) Try.func98 #[.pointer (some ⟨g,0,none⟩)] ?_;(with_reducible refine (spec_l1Byte.calls g s0_0 s0_1 s0_2 t145 t146 t147 w0 _ ?side1 ?side2 A5.out).mono ?_);(case side1=>repeat (first|(with_reducible first|exact HI0.out|apply IsS89.alloc|apply IsS89.drewN|apply IsS89.drew|apply IsS89.set_1|apply IsS89.set_2)|exact HI0.out));(case side2=>repeat (first|(with_reducible first|exact HB.out|apply below_alloc|apply pw_below_drewN|apply below_drew1|refine below_set ?_ (IsS89.ge HI0.out))|exact HB.out));rintro e w7 ⟨rfl,hi,hb,hk⟩;refine ⟨_,rfl,?_⟩;replace HK:=aM (KeepBut.trans (by repeat (first|(with_reducible first|exact HK.out|apply KeepBut.set_|apply keep_drewN|apply keep_drew|apply keep_alloc)|exact HK.out)) hk (.inl rfl));replace HB:=aM (hb);replace HI0:=aM (hi);(try clear hb);(try clear hb2);(try clear hk);(try clear hi)));go_ret;exact ⟨by first|rfl|(simp [errW_none,errW_some]<;>rfl)|(simp [*,errW_none,errW_some]<;>rfl),by repeat (first|(with_reducible first|exact HI0.out|apply IsS89.alloc|apply IsS89.drewN|apply IsS89.drew|apply IsS89.set_1|apply IsS89.set_2)|exact HI0.out),by repeat (first|(with_reducible first|exact HB.out|apply below_alloc|apply pw_below_drewN|apply below_drew1|refine below_set ?_ (IsS89.ge HI0.out))|exact HB.out),by repeat (first|(with_reducible first|exact HK.out|apply KeepBut.set_|apply keep_drewN|apply keep_drew|apply keep_alloc)|exact HK.out)⟩
  ·rw [if_neg c4] at H;have c4b0:decide (a1≤256)=false:=decide_eq_false c4;clear c4;obtain ⟨⟨t148,t149,t150⟩,A8,H⟩:=bz H;dsimp only at H;obtain ⟨⟨t151,t152,t153⟩,A9,H⟩:=bz H;dsimp only at H;obtain ⟨⟨t154,t155,t156⟩,A10,H⟩:=bz H;dsimp only at H;by_cases c11:a1=0
   ·rw [if_pos c11] at H;exact absurd H (by simp)
   ·rw [if_neg c11] at H;have c11b0:(a1 == 0)=false:=beq_eq_false_iff_ne.mpr c11;have c11b1:(a1 != 0)=true:=bne_iff_ne.mpr c11;simp only [Option.some.injEq,Prod.mk.injEq] at H;obtain ⟨rfl,rfl,rfl⟩:=H;go_enter Try.func63,Try.ntmps63;go_wp2_with (first|((with_reducible refine gate_callee (f:=98) rfl ?_);refine gm (some 17) Try.func98 #[.pointer (some ⟨g,0,none⟩)] ?_;(with_reducible refine (spec_l1Byte.calls g s0_0 s0_1 s0_2 t148 t149 t150 w0 _ ?side1 ?side2 A8.out).mono ?_);(case side1=>repeat (first|(with_reducible first|exact HI0.out|apply IsS89.alloc|apply IsS89.drewN|apply IsS89.drew|apply IsS89.set_1|apply IsS89.set_2)|exact HI0.out));(case side2=>repeat (first|(with_reducible first|exact HB.out|apply below_alloc|apply pw_below_drewN|apply below_drew1|refine below_set ?_ (IsS89.ge HI0.out))|exact HB.out));rintro e w12 ⟨rfl,hi,hb,hk⟩;refine ⟨_,rfl,?_⟩;replace HK:=aM (KeepBut.trans (by repeat (first|(with_reducible first|exact HK.out|apply KeepBut.set_|apply keep_drewN|apply keep_drew|apply keep_alloc)|exact HK.out)) hk (.inl rfl));replace HB:=aM (hb);replace HI0:=aM (hi);(try clear hb);(try clear hb2);(try clear hk);(try clear hi))|((with_reducible refine gate_callee (f:=98) rfl ?_);refine gm (some 19) Try.func98 #[.pointer (some ⟨g,0,none⟩)] ?_;(with_reducible refine (spec_l1Byte.calls g s0_0 t149 t150 t151 t152 t153 w0 _ ?side1 ?side2 A9.out).mono ?_);(case side1=>repeat (first|(with_reducible first|exact HI0.out|apply IsS89.alloc|apply IsS89.drewN|apply IsS89.drew|apply IsS89.set_1|apply IsS89.set_2)|exact HI0.out));(case side2=>repeat (first|(with_reducible first|exact HB.out|apply below_alloc|apply pw_below_drewN|apply below_drew1|refine below_set ?_ (IsS89.ge HI0.out))|exact HB.out));rintro e w13 ⟨rfl,hi,hb,hk⟩;refine ⟨_,rfl,?_⟩;replace HK:=aM (KeepBut.trans (by repeat (first|(with_reducible first|exact HK.out|apply KeepBut.set_|apply keep_drewN|apply keep_drew|apply keep_alloc)|exact HK.out)) hk (.inl rfl));replace HB:=aM (hb);replace HI0:=aM (hi);(try clear hb);(try clear hb2);(try clear hk);(try clear hi))|((with_reducible refine gate_callee (f:=98) rfl ?_);refine gm (some 21) Try.func98 #[.pointer (some ⟨g,0,none⟩)] ?_;(with_reducible refine (spec_l1Byte.calls g s0_0 t152 t153 t154 t155 t156 w0 _ ?side1 ?side2 A10.out).mono ?_);(case side1=>repeat (first|(with_reducible first|exact HI0.out|apply IsS89.alloc|apply IsS89.drewN|apply IsS89.drew|apply IsS89.set_1|apply IsS89.set_2)|exact HI0.out));(case side2=>repeat (first|(with_reducible first|exact HB.out|apply below_alloc|apply pw_below_drewN|apply below_drew1|refine below_set ?_ (IsS89.ge HI0.out))|exact HB.out));rintro e w14 ⟨rfl,hi,hb,hk⟩;refine ⟨_,rfl,?_⟩;replace HK:=aM (KeepBut.trans (by repeat (first|(with_reducible first|exact HK.out|apply KeepBut.set_|apply keep_drewN|apply keep_drew|apply keep_alloc)|exact HK.out)) hk (.inl rfl));replace HB:=aM (hb);replace HI0:=aM (hi);(try clear hb);(try clear hb2);(try clear hk);(try clear hi)));go_ret;exact ⟨by first|rfl|(simp [errW_none,errW_some]<;>rfl)|(simp [*,errW_none,errW_some]<;>rfl),by repeat (first|(with_reducible first|exact HI0.out|apply IsS89.alloc|apply IsS89.drewN|apply IsS89.drew|apply IsS89.set_1|apply IsS89.set_2)|exact HI0.out),by repeat (first|(with_reducible first|exact HB.out|apply below_alloc|apply pw_below_drewN|apply below_drew1|refine below_set ?_ (IsS89.ge HI0.out))|exact HB.out),by repeat (first|(with_reducible first|exact HK.out|apply KeepBut.set_|apply keep_drewN|apply keep_drew|apply keep_alloc)|exact HK.out)⟩
def spec_l1Once.f (s0_0 : List Int) (s0_1 : Int) (s0_2 : Int) (a1 : Int) : Option (Bool × Int × Int) := (spec_l1Below.f s0_0 s0_1 s0_2 a1).bind fun bt157 => (some ((bt157.1 == 0), bt157.2.1, bt157.2.2))
set_option maxHeartbeats 8000000 in
set_option maxRecDepth 100000 in
theorem spec_l1Once.calls (g : Nat) (s0_0 : List Int) (s0_1 : Int) (s0_2 : Int) (a1 : Int) (r1 : Bool) (r2 : Int) (r3 : Int) (w0 w : World) (hI : IsS89 w0 w g s0_0 s0_1 s0_2) (hB : Below w0.heap.size w0 w) (h : spec_l1Once.f s0_0 s0_1 s0_2 a1 = some (r1, r2, r3)) :
 Calls Try.prog 66 #[.pointer (some ⟨g, 0, none⟩), .int .i64 a1] w fun e w' => e = .returned (.bool r1) ∧ IsS89 w0 w' g s0_0 r2 r3 ∧ Below w0.heap.size w0 w' ∧ KeepBut w w' g none := by
 have HI0:=aM hI;have HK:=aM (KeepBut.refl w g none);have HL:=aM hB.size;clear hI;have HW0:=aM hB.size;have HB:=aM hB;clear hB;have H:((spec_l1Below.f s0_0 s0_1 s0_2 a1).bind fun bt157=>(some ((bt157.1 == 0),bt157.2.1,bt157.2.2)))=some (r1,r2,r3):=h;clear h;obtain ⟨⟨t157,t158,t159⟩,A3,H⟩:=bz H;dsimp only at H;simp only [Option.some.injEq,Prod.mk.injEq] at H;obtain ⟨rfl,rfl,rfl⟩:=H;go_enter Try.func66,Try.ntmps66;go_wp2_with (first|((with_reducible refine gate_callee (f:=63) rfl ?_);refine gm (some 7) Try.func63 #[.pointer (some ⟨g,0,none⟩),.int .i64 a1] ?_;(with_reducible refine (spec_l1Below.calls g s0_0 s0_1 s0_2 a1 t157 t158 t159 w0 _ ?side1 ?side2 A3.out).mono ?_);(case side1=>repeat (first|(with_reducible first|exact HI0.out|apply IsS89.alloc|apply IsS89.drewN|apply IsS89.drew|apply IsS89.set_1|apply IsS89.set_2)|exact HI0.out));(case side2=>repeat (first|(with_reducible first|exact HB.out|apply below_alloc|apply pw_below_drewN|apply below_drew1|refine below_set ?_ (IsS89.ge HI0.out))|exact HB.out));rintro e w4 ⟨rfl,hi,hb,hk⟩;refine ⟨_,rfl,?_⟩;replace HK:=aM (KeepBut.trans (by repeat (first|(with_reducible first|exact HK.out|apply KeepBut.set_|apply keep_drewN|apply keep_drew|apply keep_alloc)|exact HK.out)) hk (.inl rfl));replace HB:=aM (hb);replace HI0:=aM (hi);(try clear hb);(try clear hb2);(try clear hk);(try clear hi)));go_ret;exact ⟨by first|rfl|(simp [errW_none,errW_some]<;>rfl)|(simp [*,errW_none,errW_some]<;>rfl),by repeat (first|(with_reducible first|exact HI0.out|apply IsS89.alloc|apply IsS89.drewN|apply IsS89.drew|apply IsS89.set_1|apply IsS89.set_2)|exact HI0.out),by repeat (first|(with_reducible first|exact HB.out|apply below_alloc|apply pw_below_drewN|apply below_drew1|refine below_set ?_ (IsS89.ge HI0.out))|exact HB.out),by repeat (first|(with_reducible first|exact HK.out|apply KeepBut.set_|apply keep_drewN|apply keep_drew|apply keep_alloc)|exact HK.out)⟩
def spec_l1Int.f (s0_0 : List Int) (s0_1 : Int) (s0_2 : Int) (l1 : List Int) : Option (Int × Int × Int) := (spec_l1Below.f s0_0 s0_1 s0_2 (l1.length : Int)).bind fun bt160 => (if 0 ≤ bt160.1 then (if bt160.1 < (l1.length : Int) then (some (rd l1 bt160.1, bt160.2.1, bt160.2.2)) else (none)) else (none))
set_option maxHeartbeats 8000000 in
set_option maxRecDepth 100000 in
theorem spec_l1Int.calls (g : Nat) (s0_0 : List Int) (s0_1 : Int) (s0_2 : Int) (A1 : Option Addr) (c1 : Nat) (l1 : List Int) (r1 : Int) (r2 : Int) (r3 : Int) (w0 w : World) (hI : IsS89 w0 w g s0_0 s0_1 s0_2) (hB : Below w0.heap.size w0 w) (hr1 : Kd.C (Kd.int .i64) w A1 l1.length l1) (hc1 : l1.length ≤ c1) (hf1 : ∀ ad, A1 = some ad → 0 < l1.length → ad.block ≠ g) (h : spec_l1Int.f s0_0 s0_1 s0_2 l1 = some (r1, r2, r3)) :
 Calls Try.prog 101 #[.pointer (some ⟨g, 0, none⟩), .slice A1 l1.length c1] w fun e w' => e = .returned (.int .i64 r1) ∧ IsS89 w0 w' g s0_0 r2 r3 ∧ Below w0.heap.size w0 w' ∧ KeepBut w w' g none := by
 have HR1:=aM hr1;have HC1:=aM hc1;clear hr1 hc1;have HI0:=aM hI;have HK:=aM (KeepBut.refl w g none);have HL:=aM hB.size;clear hI;have HW0:=aM hB.size;have HB:=aM hB;clear hB;have H:((spec_l1Below.f s0_0 s0_1 s0_2 (l1.length:Int)).bind fun bt160=>(if 0≤bt160.1 then (if bt160.1<(l1.length:Int) then (some (rd l1 bt160.1,bt160.2.1,bt160.2.2)) else (none)) else (none)))=some (r1,r2,r3):=h;clear h;obtain ⟨⟨t160,t161,t162⟩,A3,H⟩:=bz H;dsimp only at H;obtain ⟨c4b0,H⟩:=iN H;obtain ⟨c5b0,H⟩:=iN H;simp only [Option.some.injEq,Prod.mk.injEq] at H;obtain ⟨rfl,rfl,rfl⟩:=H;go_enter Try.func101,Try.ntmps101;go_wp2_with (first|((with_reducible refine gate_callee (f:=63) rfl ?_);refine gm (some 9) Try.func63 #[.pointer (some ⟨g,0,none⟩),.int .i64 (l1.length:Int)] ?_;(with_reducible refine (spec_l1Below.calls g s0_0 s0_1 s0_2 (l1.length:Int) t160 t161 t162 w0 _ ?side1 ?side2 A3.out).mono ?_);(case side1=>repeat (first|(with_reducible first|exact HI0.out|apply IsS89.alloc|apply IsS89.drewN|apply IsS89.drew|apply IsS89.set_1|apply IsS89.set_2)|exact HI0.out));(case side2=>repeat (first|(with_reducible first|exact HB.out|apply below_alloc|apply pw_below_drewN|apply below_drew1|refine below_set ?_ (IsS89.ge HI0.out))|exact HB.out));rintro e w6 ⟨rfl,hi,hb,hk⟩;refine ⟨_,rfl,?_⟩;replace HK:=aM (KeepBut.trans (by repeat (first|(with_reducible first|exact HK.out|apply KeepBut.set_|apply keep_drewN|apply keep_drew|apply keep_alloc)|exact HK.out)) hk (.inl rfl));replace HB:=aM (hb);replace HI0:=aM (hi);(try clear hb);(try clear hb2);(try clear hk);(try clear hi);have p163:0≤(t160:Int):=zd;have q163:t160<(l1.length:Int):=zd;obtain ⟨ad163,e163,hx163_0⟩:=Kd.at_int HR1.out t160 p163 q163;cases e163;replace hx163_0:=keep_cell HK.out hx163_0 (by first|(rw [add_block];exact hf1 _ rfl (by omega))|exact hf1 _ rfl (by omega)|exact hf1 ad163 rfl (by omega));replace p163:=eq_true p163;replace q163:=eq_true q163));go_ret;exact ⟨by first|rfl|(simp [errW_none,errW_some]<;>rfl)|(simp [*,errW_none,errW_some]<;>rfl),by repeat (first|(with_reducible first|exact HI0.out|apply IsS89.alloc|apply IsS89.drewN|apply IsS89.drew|apply IsS89.set_1|apply IsS89.set_2)|exact HI0.out),by repeat (first|(with_reducible first|exact HB.out|apply below_alloc|apply pw_below_drewN|apply below_drew1|refine below_set ?_ (IsS89.ge HI0.out))|exact HB.out),by repeat (first|(with_reducible first|exact HK.out|apply KeepBut.set_|apply keep_drewN|apply keep_drew|apply keep_alloc)|exact HK.out)⟩
def spec_l5Row.l0 : Nat → Int → List Int → Int → List Int → Int → Int → Option (List Int × Int × Int)
 | 0, _, _, _, _, _, _ => none
 | k + 1, x1, x5, x6, x1000, x1001, x1002 => if x6 < x1 then ((spec_l1Int.f x1000 x1001 x1002 (([0, 0, 1, 1, 1, (-1), 2, (-2)] : List Int))).bind fun bt170 => (if x5.length < 17592186044416 then (spec_l5Row.l0 k x1 (x5 ++ [bt170.1]) (wrap64 (x6 + 1)) x1000 bt170.2.1 bt170.2.2) else (none))) else (some (x5, x1001, x1002))
def spec_l5Row.f (k : Nat) (s0_0 : List Int) (s0_1 : Int) (s0_2 : Int) (a1 : Int) : Option (List Int × Int × Int) := spec_l5Row.l0 k a1 (([] : List Int)) 0 s0_0 s0_1 s0_2
set_option maxHeartbeats 8000000 in
set_option maxRecDepth 100000 in
theorem spec_l5Row.calls (k : Nat) (g : Nat) (s0_0 : List Int) (s0_1 : Int) (s0_2 : Int) (a1 : Int) (r1 : List Int) (r2 : Int) (r3 : Int) (w0 w : World) (hI : IsS89 w0 w g s0_0 s0_1 s0_2) (hB : Below w0.heap.size w0 w) (h : spec_l5Row.f k s0_0 s0_1 s0_2 a1 = some (r1, r2, r3)) :
 Calls Try.prog 67 #[.pointer (some ⟨g, 0, none⟩), .int .i64 a1] w fun e w' => ∃ v0_ : Value, e = .returned (v0_) ∧ Kd.R (Kd.int .i64) 3 w' w.heap.size (fun _ => True) v0_ r1 ∧ IsS89 w0 w' g s0_0 r2 r3 ∧ Below w0.heap.size w0 w' ∧ KeepBut w w' g none := by
 have HI0:=aM hI;have HK:=aM (KeepBut.refl w g none);have HL:=aM hB.size;clear hI;have HW0:=aM hB.size;have HB:=aM hB;clear hB;have H:(spec_l5Row.l0 k a1 (([]:List Int)) 0 s0_0 s0_1 s0_2)=some (r1,r2,r3):=h;clear h;obtain ⟨y164,hy164⟩:∃y_:List Int,y_=(([]:List Int)):=⟨_,rfl⟩;replace H:(spec_l5Row.l0 k a1 y164 0 s0_0 s0_1 s0_2)=some (r1,r2,r3):=(by first|(rw [hy164];with_reducible exact H)|(have H2_:=(Option.bind_some _ _).symm.trans H;rw [hy164];with_reducible exact H2_)|(have H2_:=(Option.bind_some _ _).symm.trans H;with_reducible exact H2_)|with_reducible exact H|(rw [hy164];exact H)|exact H);have Ny164:=aM hy164;clear hy164;have H':=aM H;clear H;go_enter Try.func67,Try.ntmps67;go_wp2_with (first|((with_reducible refine gate_dst (N:=7) rfl ?_);refine Kd.R_lit (Kd.int .i64) _ 3 ?hg (N:=7) ?hd (xs:=([]:List Int)) (inner:=[]) (ok:=fun _=>True) (okp:=fun _=>True) ?hr ?hp (fun _ hk=>hk) trivial (Below.refl _ _) (Nat.le_refl _) (by simp) ?_;(case hd=>rfl);(case hg=>rfl);(case hr=>first|(go_simp;done)|(go_simp;rfl));(case hp=>exact (Reps.none _ _));intro v165 w3 ho4 hb hg_ hnew_;clear hg_ hnew_;(first|rw [← Ny164.out] at ho4|(simp only [Int.reduceToNat] at ho4;rw [← Ny164.out] at ho4));have HO166:=aM (Kd.R_lower ho4 (keep_size (w:=w) (g:=g) (row:=none) (by repeat (first|(with_reducible first|exact HK.out|apply KeepBut.set_|apply keep_drewN|apply keep_drew|apply keep_alloc)|exact HK.out))));replace HK:=aM (KeepBut.trans (by repeat (first|(with_reducible first|exact HK.out|apply KeepBut.set_|apply keep_drewN|apply keep_drew|apply keep_alloc)|exact HK.out)) (KeepBut.of_below hb g none) (.inl rfl));replace HB:=aM (below_step (by repeat (first|(with_reducible first|exact HB.out|apply below_alloc|apply pw_below_drewN|apply below_drew1|refine below_set ?_ (IsS89.ge HI0.out))|exact HB.out)) hb);replace HI0:=aM (IsS89.below (by repeat (first|(with_reducible first|exact HI0.out|apply IsS89.alloc|apply IsS89.drewN|apply IsS89.drew|apply IsS89.set_1|apply IsS89.set_2)|exact HI0.out)) hb);clear hb ho4));go_loopg [5,6] k (fun kq v5 v6 w'=>∃(x5_1:List Int) (x6_1:Int) (x1001_1:Int) (x1002_1:Int),v6 = .int .i64 x6_1∧Aside0 (spec_l5Row.l0 kq a1 x5_1 x6_1 s0_0 x1001_1 x1002_1=some (r1,r2,r3))∧Aside0 (kq≤k)∧Aside0 (Kd.R (Kd.int .i64) 3 w' w.heap.size (fun _=>True) v5 x5_1)∧Aside0 (IsS89 w0 w' g s0_0 x1001_1 x1002_1)∧Aside0 (KeepBut w w' g none)∧Aside0 (Below w0.heap.size w0 w'));(case atStart=>exact ⟨(y164),(0),(s0_1),(s0_2),zt,H',⟨Nat.le_refl _⟩,⟨zr HO166.out⟩,⟨by repeat (first|(with_reducible first|exact HI0.out|apply IsS89.alloc|apply IsS89.drewN|apply IsS89.drew|apply IsS89.set_1|apply IsS89.set_2)|exact HI0.out)⟩,⟨by repeat (first|(with_reducible first|exact HK.out|apply KeepBut.set_|apply keep_drewN|apply keep_drew|apply keep_alloc)|exact HK.out)⟩,⟨by repeat (first|(with_reducible first|exact HB.out|apply below_alloc|apply pw_below_drewN|apply below_drew1|refine below_set ?_ (IsS89.ge HI0.out))|exact HB.out)⟩⟩)
 case round=>
  clear H';(try clear p2);obtain ⟨x5_1,x6_1,x1001_1,x1002_1,rfl,HA,HK1,HO_5,HI0,HK,HB⟩:=hrel;cases gk with
  | zero=>exact absurd HA.out (by simp [spec_l5Row.l0])
  | succ k1=>
   have H:=HA.out;clear HA;simp only [spec_l5Row.l0] at H;by_cases c5:x6_1<a1
   ·rw [if_pos c5] at H;have c5b0:decide (x6_1<a1)=true:=decide_eq_true c5;clear c5;obtain ⟨y167,hy167⟩:∃y_:List Int,y_=(([0,0,1,1,1,(-1),2,(-2)]:List Int)):=⟨_,rfl⟩;replace H:((spec_l1Int.f s0_0 x1001_1 x1002_1 y167).bind fun bt170=>(if x5_1.length<17592186044416 then (spec_l5Row.l0 k1 a1 (x5_1 ++ [bt170.1]) (wrap64 (x6_1+1)) s0_0 bt170.2.1 bt170.2.2) else (none)))=some (r1,r2,r3):=(by first|(rw [hy167];with_reducible exact H)|(have H2_:=(Option.bind_some _ _).symm.trans H;rw [hy167];with_reducible exact H2_)|(have H2_:=(Option.bind_some _ _).symm.trans H;with_reducible exact H2_)|with_reducible exact H|(rw [hy167];exact H)|exact H);have Ny167:=aM hy167;clear hy167;obtain ⟨⟨t170,t171,t172⟩,A6,H⟩:=bz H;dsimp only at H;by_cases c7:x5_1.length<17592186044416
    ·rw [if_pos c7] at H;have LMc7:=aM c7;clear c7;obtain ⟨y173,hy173⟩:∃y_:List Int,y_=(x5_1 ++ [t170]):=⟨_,rfl⟩;replace H:(spec_l5Row.l0 k1 a1 y173 (wrap64 (x6_1+1)) s0_0 t171 t172)=some (r1,r2,r3):=(by first|(rw [hy173];with_reducible exact H)|(have H2_:=(Option.bind_some _ _).symm.trans H;rw [hy173];with_reducible exact H2_)|(have H2_:=(Option.bind_some _ _).symm.trans H;with_reducible exact H2_)|with_reducible exact H|(rw [hy173];exact H)|exact H);have Ny173:=aM hy173;clear hy173;have H':=aM H;clear H;go_wp2_with (first|((with_reducible refine gate_dst (N:=15) rfl ?_);refine Kd.R_lit (Kd.int .i64) _ 3 ?hg (N:=15) ?hd (xs:=([0,0,1,1,1,(-1),2,(-2)]:List Int)) (inner:=[.int .i64 0,.int .i64 0,.int .i64 1,.int .i64 1,.int .i64 1,.int .i64 (-1),.int .i64 2,.int .i64 (-2)]) (ok:=fun _=>True) (okp:=fun _=>True) ?hr ?hp (fun _ hk=>hk) trivial (Below.refl _ _) (Nat.le_refl _) (by simp) ?_;(case hd=>rfl);(case hg=>rfl);(case hr=>first|(go_simp;done)|(go_simp;rfl));(case hp=>exact (Reps.one (show Kd.M (Kd.int .i64) _ _ _ 0 [.int .i64 0] from rfl) (Reps.one (show Kd.M (Kd.int .i64) _ _ _ 0 [.int .i64 0] from rfl) (Reps.one (show Kd.M (Kd.int .i64) _ _ _ 1 [.int .i64 1] from rfl) (Reps.one (show Kd.M (Kd.int .i64) _ _ _ 1 [.int .i64 1] from rfl) (Reps.one (show Kd.M (Kd.int .i64) _ _ _ 1 [.int .i64 1] from rfl) (Reps.one (show Kd.M (Kd.int .i64) _ _ _ (-1) [.int .i64 (-1)] from rfl) (Reps.one (show Kd.M (Kd.int .i64) _ _ _ 2 [.int .i64 2] from rfl) (Reps.one (show Kd.M (Kd.int .i64) _ _ _ (-2) [.int .i64 (-2)] from rfl) (Reps.none _ _))))))))));intro v168 w8 ho9 hb hg_ hnew_;clear hg_ hnew_;(first|rw [← Ny167.out] at ho9|(simp only [Int.reduceToNat] at ho9;rw [← Ny167.out] at ho9));have HO169:=aM (Kd.R_lower (Kd.R_new' ho9 (Kd.R_lt (zr HO_5.out))) (keep_size (w:=w) (g:=g) (row:=none) (by repeat (first|(with_reducible first|exact HK.out|apply KeepBut.set_|apply keep_drewN|apply keep_drew|apply keep_alloc)|exact HK.out))));replace HO_5:=aM (Kd.R_elder' (zr HO_5.out) (Kd.R_base ho9) hb);replace HK:=aM (KeepBut.trans (by repeat (first|(with_reducible first|exact HK.out|apply KeepBut.set_|apply keep_drewN|apply keep_drew|apply keep_alloc)|exact HK.out)) (KeepBut.of_below hb g none) (.inl rfl));replace HB:=aM (below_step (by repeat (first|(with_reducible first|exact HB.out|apply below_alloc|apply pw_below_drewN|apply below_drew1|refine below_set ?_ (IsS89.ge HI0.out))|exact HB.out)) hb);replace HI0:=aM (IsS89.below (by repeat (first|(with_reducible first|exact HI0.out|apply IsS89.alloc|apply IsS89.drewN|apply IsS89.drew|apply IsS89.set_1|apply IsS89.set_2)|exact HI0.out)) hb);clear hb ho9;obtain ⟨Ao10,co10,eo10⟩:=Kd.R_slice HO169.out;subst eo10)|((with_reducible refine gate_callee (f:=101) rfl ?_);refine gm (some 16) Try.func101 #[.pointer (some ⟨g,0,none⟩),.slice Ao10 y167.length co10] ?_;(with_reducible refine (spec_l1Int.calls g s0_0 x1001_1 x1002_1 _ _ y167 t170 t171 t172 w0 _ ?side1 ?side2 ?side3 ?side4 ?side5 A6.out).mono ?_);(case side1=>repeat (first|(with_reducible first|exact HI0.out|apply IsS89.alloc|apply IsS89.drewN|apply IsS89.drew|apply IsS89.set_1|apply IsS89.set_2)|exact HI0.out));(case side2=>repeat (first|(with_reducible first|exact HB.out|apply below_alloc|apply pw_below_drewN|apply below_drew1|refine below_set ?_ (IsS89.ge HI0.out))|exact HB.out));(case side3=>exact zc (Kd.R_reads' HO169.out).2.2);(case side4=>exact (Kd.R_reads' HO169.out).2.1);(case side5=>exact far_slice (IsS89.own_ne HI0.out HO169.out (by decide)));rintro e w11 ⟨rfl,hi,hb,hk⟩;refine ⟨_,rfl,?_⟩;replace HO_5:=aM (Kd.R_mono (Kd.R_keep (IsS89.apart (show IsS89 w0 _ g s0_0 x1001_1 x1002_1 from by repeat (first|(with_reducible first|exact HI0.out|apply IsS89.alloc|apply IsS89.drewN|apply IsS89.drew|apply IsS89.set_1|apply IsS89.set_2)|exact HI0.out)) (zr HO_5.out) (by decide)) hk (fun _ h=>h.2)) (fun _ h=>h.1));replace HO169:=aM (Kd.R_mono (Kd.R_keep (IsS89.apart (show IsS89 w0 _ g s0_0 x1001_1 x1002_1 from by repeat (first|(with_reducible first|exact HI0.out|apply IsS89.alloc|apply IsS89.drewN|apply IsS89.drew|apply IsS89.set_1|apply IsS89.set_2)|exact HI0.out)) (zr HO169.out) (by decide)) hk (fun _ h=>h.2)) (fun _ h=>h.1));replace HK:=aM (KeepBut.trans (by repeat (first|(with_reducible first|exact HK.out|apply KeepBut.set_|apply keep_drewN|apply keep_drew|apply keep_alloc)|exact HK.out)) hk (.inl rfl));replace HB:=aM (hb);replace HI0:=aM (hi);(try clear hb);(try clear hb2);(try clear hk);(try clear hi))|((with_reducible refine gate_builtin (b:=.append) (xs:=#[.tmp 13,.tmp 17]) rfl ?_);at_builtin;refine Kd.R_append (Kd.int .i64) w.heap.size rfl (.tmp 13) (.tmp 17) 23 3 (.int .i64 0) 8 rfl Try.underlying23 info3 rfl (by decide) (by omega) u5 x5_1 t170 [.int .i64 t170] (fun k_=>some k_≠(.slice Ao10 y167.length co10:Value).ownBlock) (fun _=>False) rfl rfl ?aP (fun _ hk=>hk.elim) ?aF ?aO (Below.refl _ _) ?aS ?aL ?_;(case aP=>exact rfl);(case aF=>exact (fun k_ hk=>Kd.fresh' (Kd.R_lt (zr HO169.out)) k_ hk));(case aO=>exact (by (with_reducible repeat (first|apply Kd.R_alloc|apply Kd.R_drewN|apply Kd.R_drew));exact Kd.R_mono HO_5.out (fun _ hk=>hk.2)));(case aS=>exact (keep_size (w:=w) (g:=g) (row:=none) (by repeat (first|(with_reducible first|exact HK.out|apply KeepBut.set_|apply keep_drewN|apply keep_drew|apply keep_alloc)|exact HK.out))));(case aL=>have:=LMc7.out;omega);intro v174 w12 ho hb hg hat;rw [← Ny173.out] at ho;replace HO169:=aM (Kd.R_after (ok:=(fun _=>True)) (zr HO169.out) hg hat);replace HB:=aM (below_weaken (by repeat (first|(with_reducible first|exact HB.out|apply below_alloc|apply pw_below_drewN|apply below_drew1|refine below_set ?_ (IsS89.ge HI0.out))|exact HB.out)) HL.out hb);replace HI0:=aM (IsS89.grown (by repeat (first|(with_reducible first|exact HI0.out|apply IsS89.alloc|apply IsS89.drewN|apply IsS89.drew|apply IsS89.set_1|apply IsS89.set_2)|exact HI0.out)) hg (IsS89.own_ne HI0.out HO_5.out (by decide)));replace HK:=aM (KeepBut.trans (by repeat (first|(with_reducible first|exact HK.out|apply KeepBut.set_|apply keep_drewN|apply keep_drew|apply keep_alloc)|exact HK.out)) (KeepBut.of_grown hg g) (Kd.R_base2 HO_5.out));have HO175:=aM (ho);clear HO_5 ho hb hg hat));go_roundg k1;(case measure=>have:=HK1.out;omega);(case rel=>exact ⟨(y173),(wrap64 (x6_1+1)),(t171),(t172),zt,H',⟨by have:=HK1.out;omega⟩,⟨by (with_reducible repeat (first|apply Kd.R_alloc|apply Kd.R_drewN|apply Kd.R_drew));exact Kd.R_mono HO175.out (fun _ hk=>trivial)⟩,⟨by repeat (first|(with_reducible first|exact HI0.out|apply IsS89.alloc|apply IsS89.drewN|apply IsS89.drew|apply IsS89.set_1|apply IsS89.set_2)|exact HI0.out)⟩,⟨by repeat (first|(with_reducible first|exact HK.out|apply KeepBut.set_|apply keep_drewN|apply keep_drew|apply keep_alloc)|exact HK.out)⟩,⟨by repeat (first|(with_reducible first|exact HB.out|apply below_alloc|apply pw_below_drewN|apply below_drew1|refine below_set ?_ (IsS89.ge HI0.out))|exact HB.out)⟩⟩)
    ·rw [if_neg c7] at H;exact absurd H (by simp)
   ·rw [if_neg c5] at H;have c5b0:decide (x6_1<a1)=false:=decide_eq_false c5;clear c5;simp only [Option.some.injEq,Prod.mk.injEq] at H;obtain ⟨rfl,rfl,rfl⟩:=H;go_wp2;go_ret;exact ⟨_,by first|rfl|(simp [errW_none,errW_some]<;>rfl)|(simp [*,errW_none,errW_some]<;>rfl),zr HO_5.out,by repeat (first|(with_reducible first|exact HI0.out|apply IsS89.alloc|apply IsS89.drewN|apply IsS89.drew|apply IsS89.set_1|apply IsS89.set_2)|exact HI0.out),by repeat (first|(with_reducible first|exact HB.out|apply below_alloc|apply pw_below_drewN|apply below_drew1|refine below_set ?_ (IsS89.ge HI0.out))|exact HB.out),by repeat (first|(with_reducible first|exact HK.out|apply KeepBut.set_|apply keep_drewN|apply keep_drew|apply keep_alloc)|exact HK.out)⟩
def spec_l5Draw.l0 : Nat → Int → List (List Int) → Int → List Int → Int → Int → Option ((List (List Int)) × Int × Int)
 | 0, _, _, _, _, _, _ => none
 | k + 1, x1, x5, x6, x1000, x1001, x1002 => if x6 > 0 then ((spec_l5Row.f k x1000 x1001 x1002 x1).bind fun bt182 => (if x5.length < 5864062014805 then (spec_l5Draw.l0 k x1 (x5 ++ [bt182.1]) (wrap64 (x6 - 1)) x1000 bt182.2.1 bt182.2.2) else (none))) else (some (x5, x1001, x1002))
def spec_l5Draw.f (k : Nat) (s0_0 : List Int) (s0_1 : Int) (s0_2 : Int) (a1 : Int) : Option ((List (List Int)) × Int × Int) := (spec_l1Below.f s0_0 s0_1 s0_2 7).bind fun bt179 => (spec_l5Draw.l0 k a1 (([] : List (List Int))) bt179.1 s0_0 bt179.2.1 bt179.2.2)
set_option maxHeartbeats 8000000 in
set_option maxRecDepth 100000 in
theorem spec_l5Draw.calls (k : Nat) (g : Nat) (s0_0 : List Int) (s0_1 : Int) (s0_2 : Int) (a1 : Int) (r1 : List (List Int)) (r2 : Int) (r3 : Int) (w0 w : World) (hI : IsS89 w0 w g s0_0 s0_1 s0_2) (hB : Below w0.heap.size w0 w) (h : spec_l5Draw.f k s0_0 s0_1 s0_2 a1 = some (r1, r2, r3)) :
 Calls Try.prog 112 #[.pointer (some ⟨g, 0, none⟩), .int .i64 a1] w fun e w' => ∃ v0_ : Value, e = .returned (v0_) ∧ Kd.S (Kd.slice 3 (Kd.int .i64)) 23 w' w.heap.size (fun _ => True) v0_ r1 ∧ IsS89 w0 w' g s0_0 r2 r3 ∧ Below w0.heap.size w0 w' ∧ KeepBut w w' g none := by
 have HI0:=aM hI;have HK:=aM (KeepBut.refl w g none);have HL:=aM hB.size;clear hI;have HW0:=aM hB.size;have HB:=aM hB;clear hB;have H:((spec_l1Below.f s0_0 s0_1 s0_2 7).bind fun bt179=>(spec_l5Draw.l0 k a1 (([]:List (List Int))) bt179.1 s0_0 bt179.2.1 bt179.2.2))=some (r1,r2,r3):=h;clear h;obtain ⟨y176,hy176⟩:∃y_:List (List Int),y_=(([]:List (List Int))):=⟨_,rfl⟩;replace H:((spec_l1Below.f s0_0 s0_1 s0_2 7).bind fun bt179=>(spec_l5Draw.l0 k a1 y176 bt179.1 s0_0 bt179.2.1 bt179.2.2))=some (r1,r2,r3):=(by first|(rw [hy176];with_reducible exact H)|(have H2_:=(Option.bind_some _ _).symm.trans H;rw [hy176];with_reducible exact H2_)|(have H2_:=(Option.bind_some _ _).symm.trans H;with_reducible exact H2_)|with_reducible exact H|(rw [hy176];exact H)|exact H);have Ny176:=aM hy176;clear hy176;obtain ⟨⟨t179,t180,t181⟩,A3,H⟩:=bz H;dsimp only at H;have H':=aM H;clear H;go_enter Try.func112,Try.ntmps112;go_wp2_with (first|((with_reducible refine gate_dst (N:=7) rfl ?_);refine Kd.S_lit (Kd.slice 3 (Kd.int .i64)) _ 23 ?hg (N:=7) ?hd (xs:=([]:List (List Int))) (inner:=[]) (ok:=fun _=>True) (okp:=fun _=>True) ?hr ?hp (fun _ hk=>hk) trivial (Below.refl _ _) (Nat.le_refl _) (by simp) ?_;(case hd=>rfl);(case hg=>rfl);(case hr=>first|(go_simp;done)|(go_simp;rfl));(case hp=>exact (Reps.none _ _));intro v177 w4 ho5 hb hg_ hnew_;clear hg_ hnew_;(first|rw [← Ny176.out] at ho5|(simp only [Int.reduceToNat] at ho5;rw [← Ny176.out] at ho5));have HO178:=aM (Kd.S_lower ho5 (keep_size (w:=w) (g:=g) (row:=none) (by repeat (first|(with_reducible first|exact HK.out|apply KeepBut.set_|apply keep_drewN|apply keep_drew|apply keep_alloc)|exact HK.out))));replace HK:=aM (KeepBut.trans (by repeat (first|(with_reducible first|exact HK.out|apply KeepBut.set_|apply keep_drewN|apply keep_drew|apply keep_alloc)|exact HK.out)) (KeepBut.of_below hb g none) (.inl rfl));replace HB:=aM (below_step (by repeat (first|(with_reducible first|exact HB.out|apply below_alloc|apply pw_below_drewN|apply below_drew1|refine below_set ?_ (IsS89.ge HI0.out))|exact HB.out)) hb);replace HI0:=aM (IsS89.below (by repeat (first|(with_reducible first|exact HI0.out|apply IsS89.alloc|apply IsS89.drewN|apply IsS89.drew|apply IsS89.set_1|apply IsS89.set_2)|exact HI0.out)) hb);clear hb ho5)|((with_reducible refine gate_callee (f:=63) rfl ?_);refine gm (some 9) Try.func63 #[.pointer (some ⟨g,0,none⟩),.int .i64 7] ?_;(with_reducible refine (spec_l1Below.calls g s0_0 s0_1 s0_2 7 t179 t180 t181 w0 _ ?side1 ?side2 A3.out).mono ?_);(case side1=>repeat (first|(with_reducible first|exact HI0.out|apply IsS89.alloc|apply IsS89.drewN|apply IsS89.drew|apply IsS89.set_1|apply IsS89.set_2)|exact HI0.out));(case side2=>repeat (first|(with_reducible first|exact HB.out|apply below_alloc|apply pw_below_drewN|apply below_drew1|refine below_set ?_ (IsS89.ge HI0.out))|exact HB.out));rintro e w6 ⟨rfl,hi,hb,hk⟩;refine ⟨_,rfl,?_⟩;replace HO178:=aM (Kd.S_mono (Kd.S_keep (IsS89.apartS (show IsS89 w0 _ g s0_0 s0_1 s0_2 from by repeat (first|(with_reducible first|exact HI0.out|apply IsS89.alloc|apply IsS89.drewN|apply IsS89.drew|apply IsS89.set_1|apply IsS89.set_2)|exact HI0.out)) (by (with_reducible repeat (first|apply Kd.S_alloc|apply Kd.S_drewN|apply Kd.S_drew));exact HO178.out) (by decide)) hk (fun _ h=>h.2)) (fun _ h=>h.1));replace HK:=aM (KeepBut.trans (by repeat (first|(with_reducible first|exact HK.out|apply KeepBut.set_|apply keep_drewN|apply keep_drew|apply keep_alloc)|exact HK.out)) hk (.inl rfl));replace HB:=aM (hb);replace HI0:=aM (hi);(try clear hb);(try clear hb2);(try clear hk);(try clear hi)));go_loopg [5,6] k (fun kq v5 v6 w'=>∃(x5_1:List (List Int)) (x6_1:Int) (x1001_1:Int) (x1002_1:Int),v6 = .int .i64 x6_1∧Aside0 (spec_l5Draw.l0 kq a1 x5_1 x6_1 s0_0 x1001_1 x1002_1=some (r1,r2,r3))∧Aside0 (kq≤k)∧Aside0 (Kd.S (Kd.slice 3 (Kd.int .i64)) 23 w' w.heap.size (fun _=>True) v5 x5_1)∧Aside0 (IsS89 w0 w' g s0_0 x1001_1 x1002_1)∧Aside0 (KeepBut w w' g none)∧Aside0 (Below w0.heap.size w0 w'));(case atStart=>exact ⟨(y176),(t179),(t180),(t181),zt,H',⟨Nat.le_refl _⟩,⟨by (with_reducible repeat (first|apply Kd.S_alloc|apply Kd.S_drewN|apply Kd.S_drew));exact HO178.out⟩,⟨by repeat (first|(with_reducible first|exact HI0.out|apply IsS89.alloc|apply IsS89.drewN|apply IsS89.drew|apply IsS89.set_1|apply IsS89.set_2)|exact HI0.out)⟩,⟨by repeat (first|(with_reducible first|exact HK.out|apply KeepBut.set_|apply keep_drewN|apply keep_drew|apply keep_alloc)|exact HK.out)⟩,⟨by repeat (first|(with_reducible first|exact HB.out|apply below_alloc|apply pw_below_drewN|apply below_drew1|refine below_set ?_ (IsS89.ge HI0.out))|exact HB.out)⟩⟩)
 case round=>
  clear H';(try clear c1);(try clear p2);(try clear c6);obtain ⟨x5_1,x6_1,x1001_1,x1002_1,rfl,HA,HK1,HO_5,HI0,HK,HB⟩:=hrel;cases gk with
  | zero=>exact absurd HA.out (by simp [spec_l5Draw.l0])
  | succ k1=>
   have H:=HA.out;clear HA;simp only [spec_l5Draw.l0] at H;by_cases c7:x6_1 > 0
   ·rw [if_pos c7] at H;have c7b0:decide (0<x6_1)=true:=decide_eq_true c7;clear c7;obtain ⟨⟨t182,t185,t186⟩,A8,H⟩:=bz H;dsimp only at H;by_cases c9:x5_1.length<5864062014805
    ·rw [if_pos c9] at H;have LMc9:=aM c9;clear c9;obtain ⟨y187,hy187⟩:∃y_:List (List Int),y_=(x5_1 ++ [t182]):=⟨_,rfl⟩;replace H:(spec_l5Draw.l0 k1 a1 y187 (wrap64 (x6_1-1)) s0_0 t185 t186)=some (r1,r2,r3):=(by first|(rw [hy187];with_reducible exact H)|(have H2_:=(Option.bind_some _ _).symm.trans H;rw [hy187];with_reducible exact H2_)|(have H2_:=(Option.bind_some _ _).symm.trans H;with_reducible exact H2_)|with_reducible exact H|(rw [hy187];exact H)|exact H);have Ny187:=aM hy187;clear hy187;have H':=aM H;clear H;go_wp2_with (first|((with_reducible refine gate_callee (f:=67) rfl ?_);refine gm (some 17) Try.func67 #[.pointer (some ⟨g,0,none⟩),.int .i64 a1] ?_;(with_reducible refine (spec_l5Row.calls k1 g s0_0 x1001_1 x1002_1 a1 t182 t185 t186 w0 _ ?side1 ?side2 A8.out).mono ?_);(case side1=>repeat (first|(with_reducible first|exact HI0.out|apply IsS89.alloc|apply IsS89.drewN|apply IsS89.drew|apply IsS89.set_1|apply IsS89.set_2)|exact HI0.out));(case side2=>repeat (first|(with_reducible first|exact HB.out|apply below_alloc|apply pw_below_drewN|apply below_drew1|refine below_set ?_ (IsS89.ge HI0.out))|exact HB.out));rintro e w10 ⟨v183,rfl,ho0,hi,hb,hk⟩;refine ⟨_,rfl,?_⟩;replace HO_5:=aM (Kd.S_mono (Kd.S_told (Kd.S_oldK (IsS89.apartS (show IsS89 w0 _ g s0_0 x1001_1 x1002_1 from by repeat (first|(with_reducible first|exact HI0.out|apply IsS89.alloc|apply IsS89.drewN|apply IsS89.drew|apply IsS89.set_1|apply IsS89.set_2)|exact HI0.out)) (by (with_reducible repeat (first|apply Kd.S_alloc|apply Kd.S_drewN|apply Kd.S_drew));exact HO_5.out) (by decide)) hk) (Kd.R_base ho0)) (fun _ h_=>h_.1));have HO184:=aM (Kd.R_lower ho0 (keep_size (w:=w) (g:=g) (row:=none) (by repeat (first|(with_reducible first|exact HK.out|apply KeepBut.set_|apply keep_drewN|apply keep_drew|apply keep_alloc)|exact HK.out))));replace HK:=aM (KeepBut.trans (by repeat (first|(with_reducible first|exact HK.out|apply KeepBut.set_|apply keep_drewN|apply keep_drew|apply keep_alloc)|exact HK.out)) hk (.inl rfl));replace HB:=aM (hb);replace HI0:=aM (hi);(try clear hb);(try clear hb2);(try clear hk);(try clear hi);(try clear ho0);obtain ⟨Ao12,co12,eo12⟩:=Kd.R_slice HO184.out;subst eo12)|((with_reducible refine gate_builtin (b:=.append) (xs:=#[.tmp 14,.tmp 18]) rfl ?_);at_builtin;refine Kd.S_append (Kd.slice 3 (Kd.int .i64)) w.heap.size rfl (.tmp 14) (.tmp 18) 22 23 (.slice none 0 0) 24 rfl Try.underlying22 info23 rfl (by decide) (by omega) u5 x5_1 t182 [.slice Ao12 t182.length co12] (fun _=>True) (fun k_=>some k_=(.slice Ao12 t182.length co12:Value).ownBlock) rfl rfl ?aP (fun k_ hk_=>((Kd.R_mono (ok':=fun k_=>((fun _=>True)) k_∧some k_≠(u5:Value).ownBlock) (Kd.R_apart' (HO184.out) (Kd.S_typed HO_5.out) (by decide)) (fun k_ hk=>⟨trivial,hk.2⟩))).1 k_ hk_.symm) ?aF ?aO (Below.refl _ _) ?aS ?aL ?_;(case aP=>exact Kd.M_row (Kd.R_mono (Kd.R_tight rfl (Kd.R_mono (ok':=fun k_=>((fun _=>True)) k_∧some k_≠(u5:Value).ownBlock) (Kd.R_apart' (HO184.out) (Kd.S_typed HO_5.out) (by decide)) (fun k_ hk=>⟨trivial,hk.2⟩))) (fun _ h_=>h_)));(case aF=>exact (fun _ _=>trivial));(case aO=>exact (by (with_reducible repeat (first|apply Kd.S_alloc|apply Kd.S_drewN|apply Kd.S_drew));exact Kd.S_mono HO_5.out (fun k_ hk=>⟨trivial,fun e_=>hk.2 e_⟩)));(case aS=>exact (keep_size (w:=w) (g:=g) (row:=none) (by repeat (first|(with_reducible first|exact HK.out|apply KeepBut.set_|apply keep_drewN|apply keep_drew|apply keep_alloc)|exact HK.out))));(case aL=>have:=LMc9.out;omega);intro v188 w11 ho hb hg hat;rw [← Ny187.out] at ho;replace HB:=aM (below_weaken (by repeat (first|(with_reducible first|exact HB.out|apply below_alloc|apply pw_below_drewN|apply below_drew1|refine below_set ?_ (IsS89.ge HI0.out))|exact HB.out)) HL.out hb);replace HI0:=aM (IsS89.grown (by repeat (first|(with_reducible first|exact HI0.out|apply IsS89.alloc|apply IsS89.drewN|apply IsS89.drew|apply IsS89.set_1|apply IsS89.set_2)|exact HI0.out)) hg (IsS89.own_neS HI0.out HO_5.out (by decide)));replace HK:=aM (KeepBut.trans (by repeat (first|(with_reducible first|exact HK.out|apply KeepBut.set_|apply keep_drewN|apply keep_drew|apply keep_alloc)|exact HK.out)) (KeepBut.of_grown hg g) (Kd.S_base2 HO_5.out));have HO189:=aM (ho);clear HO_5 HO184 ho hb hg hat));go_roundg k1;(case measure=>have:=HK1.out;omega);(case rel=>exact ⟨(y187),(wrap64 (x6_1-1)),(t185),(t186),zt,H',⟨by have:=HK1.out;omega⟩,⟨by (with_reducible repeat (first|apply Kd.S_alloc|apply Kd.S_drewN|apply Kd.S_drew));exact HO189.out⟩,⟨by repeat (first|(with_reducible first|exact HI0.out|apply IsS89.alloc|apply IsS89.drewN|apply IsS89.drew|apply IsS89.set_1|apply IsS89.set_2)|exact HI0.out)⟩,⟨by repeat (first|(with_reducible first|exact HK.out|apply KeepBut.set_|apply keep_drewN|apply keep_drew|apply keep_alloc)|exact HK.out)⟩,⟨by repeat (first|(with_reducible first|exact HB.out|apply below_alloc|apply pw_below_drewN|apply below_drew1|refine below_set ?_ (IsS89.ge HI0.out))|exact HB.out)⟩⟩)
    ·rw [if_neg c9] at H;exact absurd H (by simp)
   ·rw [if_neg c7] at H;have c7b0:decide (0<x6_1)=false:=decide_eq_false c7;clear c7;simp only [Option.some.injEq,Prod.mk.injEq] at H;obtain ⟨rfl,rfl,rfl⟩:=H;go_wp2;go_ret;exact ⟨_,by first|rfl|(simp [errW_none,errW_some]<;>rfl)|(simp [*,errW_none,errW_some]<;>rfl),by (with_reducible repeat (first|apply Kd.S_alloc|apply Kd.S_drewN|apply Kd.S_drew));exact HO_5.out,by repeat (first|(with_reducible first|exact HI0.out|apply IsS89.alloc|apply IsS89.drewN|apply IsS89.drew|apply IsS89.set_1|apply IsS89.set_2)|exact HI0.out),by repeat (first|(with_reducible first|exact HB.out|apply below_alloc|apply pw_below_drewN|apply below_drew1|refine below_set ?_ (IsS89.ge HI0.out))|exact HB.out),by repeat (first|(with_reducible first|exact HK.out|apply KeepBut.set_|apply keep_drewN|apply keep_drew|apply keep_alloc)|exact HK.out)⟩
end Go.Proofs.Ytojkepidkmkmpaa.PFnRows
end
