/-
  Goes on where the text before it ends.
  Conditions: none beside the given statement's own.
-/
import Derived.Test.YtojkepidkmkmpaaProg
import Derived.Below
import Derived.Deep.Draws
import Derived.Deep.AppendLies
import Derived.Maps.AppendAt
import Derived.OwnWalk
import Derived.Laws.BytesArg
import Derived.Laws.MakeOwn
import Derived.Laws.OwnMore
import Derived.Deep.OwnRows
import Derived.Tactics
import Derived.Lib.ConvBytes
import Derived.Laws.Slices
import Derived.WalkKit
import Derived.KernelRfl
import Derived.RowKit3
import Derived.Deep.LoopGhost
import Derived.Deep.QuietTactic
import Derived.BigQuiet
import Derived.WideLaws
import Derived.Deep.DeepCutAuto
import Derived.Deep.CutBlock
import Derived.Deep.RegionHeld3
import Derived.Laws.Rows
import Derived.Lib.AppendStr
import Derived.ArgAppend
import Derived.Laws.IdiomCopy
import Derived.OrdersHeld
import Derived.Laws.BitsLemmas
import Derived.RowKit
import Derived.Lib.SliceRun
import Derived.Shelf.SlGeneric
import Derived.Shelf.SlicesE.Delete
import Derived.Ground.SlgnProg
import Derived.Lib.OwnBridge
import Derived.Test.YtojkepidkmkmpaaPSLVa
set_option linter.unusedVariables false
set_option linter.unusedSimpArgs false
section
namespace Go.Proofs.YtojkepidkmkmpaaW.PrintWords
open Go.RowKit Go.Proofs.YtojkepidkmkmpaaW.PrintWords Go.Proofs.YtojkepidkmkmpaaW.PrintLast Go.Proofs.YtojkepidkmkmpaaW.PrintMore
set_option linter.unusedVariables false
set_option linter.unusedSimpArgs false
theorem zb {P Q : Prop} (h : P) (q : P → Q := by intro h; repeat (first | (with_reducible first | exact h | apply below_alloc | apply pw_below_drewN | apply below_drew1) | exact h)) : Q := q h
theorem zs {P Q : Prop} (h : P) (q : P → Q := by intro h;repeat (first|(with_reducible first|exact h|apply below_alloc|apply pw_below_drewN|apply below_drew1|refine below_set ?_ (Aside0.out (by with_reducible assumption)))|exact h)) : Q := q h
theorem zr {P Q : Prop} (h : P) (q : P → Q := by intro h; (with_reducible repeat (first | apply Kd.R_alloc | apply Kd.R_drewN | apply Kd.R_drew)); exact h) : Q := q h
theorem zn {P Q : Prop} (h : P) (q : P → Q := by intro h; (with_reducible repeat (first | apply Kd.N_alloc | apply Kd.N_drewN | apply Kd.N_drew)); exact h) : Q := q h
theorem zv {P Q : Prop} (h : P) (q : P → Q := by intro h; (with_reducible repeat (first | apply Kd.V_alloc | apply Kd.V_drewN | apply Kd.V_drew)); exact h) : Q := q h
theorem zk {P Q : Prop} (h : P) (q : P → Q := by intro h;(with_reducible repeat (first|refine blk_drewN ?_ _|refine blk_drew ?_|refine blk_alloc ?_ _));exact h) : Q := q h
theorem zp {P Q : Prop} (h : P) (q : P → Q := by intro h; repeat (first | (with_reducible first | exact h | apply Kept.alloc | apply Kept.drewN | apply Kept.drew) | exact h)) : Q := q h
theorem zc {P Q : Prop} (h : P) (q : P → Q := by intro h;repeat (first|(with_reducible exact h)|(with_reducible refine Kd.C_alloc ?_ _)|(with_reducible refine Kd.C_drewN ?_ _)|(with_reducible refine Kd.C_drew ?_)|exact h)) : Q := q h
theorem zd {p : Prop} [Decidable p] (h : decide p = true := by first | (with_reducible assumption) | assumption) : p := of_decide_eq_true h
theorem zt {p : Prop} (h : p := by first | rfl | (simp; done) | (simp [*]; done)) : p := h
theorem zz {p : Prop} (h : p := by repeat (first | exact Drawn0.refl _ | apply Drawn0.step)) : p := h
theorem ifT {α : Type} {i : Decidable (true = true)} {a b r : α} (h : @ite α (true = true) i a b = r) : a = r := by rwa [if_pos rfl] at h
theorem ifF {α : Type} {i : Decidable (false = true)} {a b r : α} (h : @ite α (false = true) i a b = r) : b = r := by rwa [if_neg (by simp)] at h
theorem bz {α β : Type} {o : Option α} {f : α → Option β} {r : β} (h : o.bind f = some r) : ∃ a, Aside0 (o = some a) ∧ f a = some r := by
 obtain ⟨a, h1, h2⟩ := Option.bind_eq_some_iff.mp h
 exact ⟨a, ⟨h1⟩, h2⟩
theorem iN {α : Type} {c : Prop} {i : Decidable c} {a : Option α} {r : α} (h : @ite _ c i a none = some r) : decide c = true ∧ a = some r := by
 by_cases hc : c
 ·rw [if_pos hc] at h; exact ⟨decide_eq_true hc, h⟩
 ·rw [if_neg hc] at h; cases h
theorem zg {g : Nat} {w W : World} (hg : g = W.heap.size) (h : Below w.heap.size w W) : w.heap.size ≤ g := by rw [hg]; exact below_size h
theorem zl {g g' : Nat} {o : Obj} {W : World} (hg : g' = W.heap.size) (h : W.heap[g]? = some o) : g ≠ g' := by rw [hg]; exact Nat.ne_of_lt (blk_lt h)
theorem zm {g g' : Nat} {o : Obj} {W : World} (hg : g' = W.heap.size) (h : W.heap[g]? = some o) : g' ≠ g := by rw [hg]; exact Nat.ne_of_gt (blk_lt h)
theorem zx {w W : World} {p : Addr} {v : Value} (hB : Below w.heap.size w W) (hx : w.cell? p = some v) : W.cell? p = some v := (hB.cell (World.block_lt_of_cell? w _ hx)).trans hx
section
variable {P : Program} {ops : Array Oper} {Q : Exit → Act → World → Prop} {md : Region.Mode} {S : World → Prop} {ds : List Nat}
theorem pu {T : Bool × List (List Nat × List Nat)} {oi : Oper} {v : Value} {fuel : Nat} {l : Array Bool} {a a' : Act} {w : World} (i : Nat) (N : Option Tmp) (l' : Array Bool) (hi : ops[i]? = some oi) (hN : oi.dst = N) (hT : Aside0 (rtab md ops = T)) (h : wpAnyLast P md ops Q S ds fuel l' a' w)
  (hc : anyT T l.toList l'.toList i = true := by kernel_rfl) (hQ : ∀ c a w, Q (.panic c) (a.put oi.dst v) w → Q (.panic c) a w := by exact fun _ _ _ h => h) (hw : Region.wanted oi (yielded ops a.tmps) = true := by rfl)
  (hy : ∀ w, (execOp a.eval oi).run P w = .ok (.value v) w := by intro w';go_simp;with_reducible rfl) (ha : a.put N v = a' := by simp only [Act.put, List.setIfInBounds_toArray, List.set_cons_zero, List.set_cons_succ, i64_w, i32_w];rfl) : wpAnyLast P md ops Q S ds (fuel + 1) l a w :=
 pure_ l' hi hN (any_of hT.out hc) hQ (Or.inl ⟨hw, hy⟩) ha h
theorem gm {rest : List Oper} {oi : Oper} {a : Act} {w : World} (N : Option Tmp) {f : FuncId} {fn : Func} {ao : Array Operand} {ts : Array TypeId} (hf : P.funcs[f]? = some fn) (args : Array Value)
  (h : Calls P f args w fun e w' => ∃ v, e = .returned v ∧ wpList P ops Q rest (a.put N v) w') (hd : oi.dst = N := by exact rfl) (hg : oi.guard = none := by exact rfl) (hname : (fn.name == "runtime.NumGoroutine") = false := by kernel_rfl) (hb : fn.body.isSome = true := by exact rfl)
  (hop : oi.op = .call { callee := .value (.func f), args := ao, argTypes := ts } := by exact rfl) (hargs : ao.map a.eval = args := by (try simp only [List.map_toArray, List.map_cons, List.map_nil]); first | done | rfl | (simp only [List.length_drop, List.length_take]; rfl)) : wpList P ops Q (oi :: rest) a w := goesL_ N hd hg hf hname hb args hop hargs h
theorem gs {oi : Oper} {N : Option Tmp} {a : Act} {w : World} {K : Act → World → Prop} {f : FuncId} {fn : Func} {ao : Array Operand} {ts : Array TypeId} (hf : P.funcs[f]? = some fn) (args : Array Value)
  (h : Calls P f args w fun e w' => ∃ v, e = .returned v ∧ K (a.put N v) w') (hname : (fn.name == "runtime.NumGoroutine") = false := by kernel_rfl) (hb : fn.body.isSome = true := by exact rfl)
  (hw : Region.wanted oi (yielded ops a.tmps) = true := by rfl) (hN : oi.dst = N := by exact rfl) (hop : oi.op = .call { callee := .value (.func f), args := ao, argTypes := ts } := by exact rfl) (hargs : ao.map a.eval = args := by (try simp only [List.map_toArray, List.map_cons, List.map_nil]); first | done | rfl | (simp only [List.length_drop, List.length_take]; rfl)) : if Region.wanted oi (yielded ops a.tmps) = true then Oper.wp P oi a w K Q else K (a.put N undef) w := goes_ hf hname hb args hw hN hop hargs h
end
theorem Z1 {p a1:Prop} (x1:a1) (h:a1→p:=by intro i1_;repeat (first|(with_reducible first|exact i1_|apply IsS89.alloc|apply IsS89.drewN|apply IsS89.drew|apply IsS89.set_1|apply IsS89.set_2)|exact i1_)):p:=h x1
theorem Z2 {p a1:Prop} (x1:a1) (h:a1→p:=by intro i1_;first|(rw [i1_];with_reducible exact H)|(have H2_:=(Option.bind_some _ _).symm.trans H;rw [i1_];with_reducible exact H2_)|(have H2_:=(Option.bind_some _ _).symm.trans H;with_reducible exact H2_)|with_reducible exact H|(rw [i1_];exact H)|exact H):p:=h x1
theorem Z3 {p a1 a2:Prop} (x1:a1) (x2:a2) (h:a1→a2→p:=by intro i1_ i2_;repeat (first|(with_reducible first|exact i1_|apply below_alloc|apply pw_below_drewN|apply below_drew1|refine below_set ?_ (IsS89.ge i2_))|exact i1_)):p:=h x1 x2
theorem Z4 {p a1:Prop} (x1:a1) (h:a1→p:=by intro i1_;repeat (first|(with_reducible first|exact i1_|apply KeepBut.set_|apply keep_drewN|apply keep_drew|apply keep_alloc)|exact i1_)):p:=h x1
theorem Z5 {p a1 a2:Prop} (x1:a1) (x2:a2) (h:a1→a2→p:=by intro i1_ i2_;first|exact Nat.ne_of_lt (Nat.lt_of_lt_of_le (by have:=World.block_lt_of_cell? _ _ i1_;first|rwa [add_block] at this|exact this) i2_)|(rw [add_block];exact Nat.ne_of_lt (Nat.lt_of_lt_of_le (by have:=World.block_lt_of_cell? _ _ i1_;first|rwa [add_block] at this|exact this) i2_))|(show (Addr.add _ _).block≠_;rw [add_block];exact Nat.ne_of_lt (Nat.lt_of_lt_of_le (by have:=World.block_lt_of_cell? _ _ i1_;first|rwa [add_block] at this|exact this) i2_))|(dsimp only;exact Nat.ne_of_lt (Nat.lt_of_lt_of_le (by have:=World.block_lt_of_cell? _ _ i1_;first|rwa [add_block] at this|exact this) i2_))):p:=h x1 x2
theorem Z6 {p a1 a2:Prop} (x1:a1) (x2:a2) (h:a1→a2→p:=by intro i1_ i2_;(with_reducible repeat (first|refine blk_drewN ?_ _|refine blk_drew ?_|refine blk_alloc ?_ _));refine blk_far ?_ i1_ _;(with_reducible repeat (first|refine blk_drewN ?_ _|refine blk_drew ?_|refine blk_alloc ?_ _));refine blk_far ?_ i1_ _;(with_reducible repeat (first|refine blk_drewN ?_ _|refine blk_drew ?_|refine blk_alloc ?_ _));exact i2_):p:=h x1 x2
theorem Z7 {p:Prop} (h:p:=by first|rfl|(simp [errW_none,errW_some]<;>rfl)|(simp [*,errW_none,errW_some]<;>rfl)):p:=h
theorem Z8 {p a1:Prop} (x1:a1) (h:a1→p:=by intro i1_;(with_reducible repeat (first|apply Kd.S_alloc|apply Kd.S_drewN|apply Kd.S_drew));exact i1_):p:=h x1
theorem Z9 {p:Prop} (h:p:=by first|(go_simp;done)|(go_simp;rfl)):p:=h
theorem Z10 {p a1:Prop} (x1:a1) (h:a1→p:=by intro i1_;(with_reducible repeat (first|refine blk_drewN ?_ _|refine blk_drew ?_|refine blk_alloc ?_ _));refine blk_put (cs:=#[.int .i64 0,.int .i64 0]) ?_ 1 _ rfl;(with_reducible repeat (first|refine blk_drewN ?_ _|refine blk_drew ?_|refine blk_alloc ?_ _));refine blk_put (cs:=#[.int .i64 0,.int .i64 0]) ?_ 0 _ rfl;(with_reducible repeat (first|refine blk_drewN ?_ _|refine blk_drew ?_|refine blk_alloc ?_ _));exact i1_):p:=h x1
theorem Z11 {p a1 a2 a3:Prop} (x1:a1) (x2:a2) (x3:a3) (h:a1→a2→a3→p:=by intro i1_ i2_ i3_;first|exact Kd.own_blk (vaway i1_ (by have a_:=of_eq_true i2_;have b_:=of_eq_true i3_;omega) (fun _ hk=>hk.2.2))|(rw [add_block];exact Kd.own_blk (vaway i1_ (by have a_:=of_eq_true i2_;have b_:=of_eq_true i3_;omega) (fun _ hk=>hk.2.2)))|(show (Addr.add _ _).block≠_;rw [add_block];exact Kd.own_blk (vaway i1_ (by have a_:=of_eq_true i2_;have b_:=of_eq_true i3_;omega) (fun _ hk=>hk.2.2)))|(dsimp only;exact Kd.own_blk (vaway i1_ (by have a_:=of_eq_true i2_;have b_:=of_eq_true i3_;omega) (fun _ hk=>hk.2.2)))):p:=h x1 x2 x3
theorem Z12 {p a1:Prop} (x1:a1) (h:a1→p:=by intro i1_;(with_reducible repeat (first|apply Kd.Q_alloc|apply Kd.Q_drewN|apply Kd.Q_drew));exact i1_):p:=h x1
theorem Z13 {p a1:Prop} (x1:a1) (h:a1→p:=by intro i1_;(with_reducible repeat (first|refine blk_drewN ?_ _|refine blk_drew ?_|refine blk_alloc ?_ _));refine blk_put (cs:=#[.int .i64 t564,.int .i64 0]) ?_ 1 _ rfl;(with_reducible repeat (first|refine blk_drewN ?_ _|refine blk_drew ?_|refine blk_alloc ?_ _));refine blk_put (cs:=#[.int .i64 0,.int .i64 0]) ?_ 0 _ rfl;(with_reducible repeat (first|refine blk_drewN ?_ _|refine blk_drew ?_|refine blk_alloc ?_ _));exact i1_):p:=h x1
theorem Z14 {p a1:Prop} (x1:a1) (h:a1→p:=by intro i1_;(with_reducible repeat (first|apply Kd.V_alloc|apply Kd.V_drewN|apply Kd.V_drew));exact Kd.V_mono i1_ (fun _ hk=>by first|exact ⟨hk.1.2,⟨hk.1.1,hk.2⟩⟩|exact ⟨hk.1.1,⟨hk.1.2,hk.2⟩⟩|exact ⟨⟨hk.1.1,hk.1.2⟩,hk.2⟩|exact ⟨hk.2,hk.1⟩|((repeat' apply And.intro)<;>simp_all))):p:=h x1
theorem Z15 {p a1:Prop} (x1:a1) (h:a1→p:=by intro i1_;first|exact Kd.own_blk (Kd.N_away i1_ (fun _ hk=>hk.2))|(rw [add_block];exact Kd.own_blk (Kd.N_away i1_ (fun _ hk=>hk.2)))|(show (Addr.add _ _).block≠_;rw [add_block];exact Kd.own_blk (Kd.N_away i1_ (fun _ hk=>hk.2)))|(dsimp only;exact Kd.own_blk (Kd.N_away i1_ (fun _ hk=>hk.2)))):p:=h x1
theorem Z16 {p a1:Prop} (x1:a1) (h:a1→p:=by intro i1_;first|exact Kd.own_blk (Kd.R_away i1_ (fun _ hk=>hk.2))|(rw [add_block];exact Kd.own_blk (Kd.R_away i1_ (fun _ hk=>hk.2)))|(show (Addr.add _ _).block≠_;rw [add_block];exact Kd.own_blk (Kd.R_away i1_ (fun _ hk=>hk.2)))|(dsimp only;exact Kd.own_blk (Kd.R_away i1_ (fun _ hk=>hk.2)))):p:=h x1
theorem Z17 {p:Prop} (h:p:=by kernel_rfl):p:=h
theorem Z18 {p:Prop} (h:p:=by repeat (first|exact Drawn0.refl _|apply Drawn0.step)):p:=h
theorem Z19 {p:Prop} (h:p:=by decide):p:=h
theorem Z20 {p a1 a2:Prop} (x1:a1) (x2:a2) (h:a1→a2→p:=by intro i1_ i2_;first|exact i1_|exact zd|(have e_:=(Kd.N_reads' i2_).1;omega)):p:=h x1 x2
theorem Z21 {p:Prop} (h:p:=by first|exact Kd.R_nil _ _ _ _ _|exact Kd.N_nil _ _ _ _ _|exact Kd.V_nil _ _ _ _ _|exact Kd.Q_nil _ _ _ _ _|exact Kd.S_nil _ _ _ _ _):p:=h
theorem Z22 {p a1:Prop} (x1:a1) (h:a1→p:=by intro i1_;(with_reducible repeat (first|apply Kd.R_alloc|apply Kd.R_drewN|apply Kd.R_drew));exact Kd.R_mono i1_ (fun _ hk=>hk.2)):p:=h x1
theorem Z23 {p a1:Prop} (x1:a1) (h:a1→p:=by intro i1_;(with_reducible repeat (first|apply Kd.R_alloc|apply Kd.R_drewN|apply Kd.R_drew));exact Kd.R_mono i1_ (fun _ hk=>⟨hk.1.1,hk.2⟩)):p:=h x1
theorem Z24 {p a1 a2 a3:Prop} (x1:a1) (x2:a2) (x3:a3) (h:a1→a2→a3→p:=by intro i1_ i2_ i3_;(try simp only [i1_]);(try simp only [i2_]);(with_reducible repeat (first|apply Kd.N_alloc|apply Kd.N_drewN|apply Kd.N_drew));exact Kd.N_mono (Kd.N_far (p:=⟨go46,(t612:Int).toNat,none⟩) (Kd.N_mono i3_ (fun k_ hk=>(⟨hk,fun e_=>by rw [e_] at hk;first|exact hk.1 rfl|exact hk.2 rfl|exact hk.1.1 rfl|exact hk.1.2 rfl|exact hk.2.1 rfl|exact hk.2.2 rfl|exact hk.1.2.1 rfl|exact hk.1.2.2 rfl|exact hk.2.2.1 rfl|exact hk.2.2.2 rfl|exact hk.2.2.2.1 rfl|exact hk.2.2.2.2 rfl⟩:_∧k_≠go46))) (fun _ hk=>hk.2) (.int .i64 (wrap64 ((wrap64 (-(rd (rd_L1 t594 x81_4) x66_3)))*(wrap64 (Int.tdiv x7_2 (rd (rd_L1 t594 x81_4) t612))))))) (fun _ hk=>by first|exact ⟨hk.1.1,⟨hk.1.2.1,hk.1.2.2⟩⟩|((repeat' apply And.intro)<;>first|exact hk.1|exact hk.2|exact hk.1.1|exact hk.1.2|exact hk.2.1|exact hk.2.2|exact hk.1.1.1|exact hk.1.1.2|exact hk.1.2.1|exact hk.1.2.2|exact hk.2.1.1|exact hk.2.1.2|exact hk.2.2.1|exact hk.2.2.2|exact hk.2.2.2.1|exact hk.2.2.2.2|exact hk.1.2.2.1|exact hk.1.2.2.2|exact hk.1.2.2.2.1|exact hk.1.2.2.2.2))):p:=h x1 x2 x3
theorem Z25 {p a1:Prop} (x1:a1) (h:a1→p:=by intro i1_;(with_reducible repeat (first|apply Kd.R_alloc|apply Kd.R_drewN|apply Kd.R_drew));exact Kd.R_mono i1_ (fun _ hk=>trivial)):p:=h x1
theorem Z26 {p a1:Prop} (x1:a1) (h:a1→p:=by intro i1_;(with_reducible repeat (first|apply Kd.R_alloc|apply Kd.R_drewN|apply Kd.R_drew));exact (Kd.R_mono (Kd.R_far (p:=⟨gb651,1,none⟩) (Kd.R_far (p:=⟨gb651,0,none⟩) (Kd.R_mono i1_ (fun k_ hk=>(⟨hk,hk.2⟩:_∧k_≠gb651))) (fun _ hk=>hk.2) (.int .i64 t648)) (fun _ hk=>hk.2) (.int .i64 t649)) (fun _ h_=>h_.1))):p:=h x1
theorem Z27 {p a1:Prop} (x1:a1) (h:a1→p:=by intro i1_;(with_reducible repeat (first|apply Kd.R_alloc|apply Kd.R_drewN|apply Kd.R_drew));exact (Kd.R_mono (Kd.R_far (p:=⟨gb647,1,none⟩) (Kd.R_far (p:=⟨gb647,0,none⟩) (Kd.R_mono i1_ (fun k_ hk=>(⟨hk,hk.2⟩:_∧k_≠gb647))) (fun _ hk=>hk.2) (.int .i64 t644)) (fun _ hk=>hk.2) (.int .i64 t645)) (fun _ h_=>h_.1))):p:=h x1
theorem Z28 {p a1:Prop} (x1:a1) (h:a1→p:=by intro i1_;(with_reducible repeat (first|apply Kd.S_alloc|apply Kd.S_drewN|apply Kd.S_drew));exact Kd.S_mono i1_ (fun _ hk=>hk.2)):p:=h x1
theorem Z29 {p a1:Prop} (x1:a1) (h:a1→p:=by intro i1_;(with_reducible repeat (first|refine blk_drewN ?_ _|refine blk_drew ?_|refine blk_alloc ?_ _));refine blk_put (cs:=#[.int .i64 (wrap64 (Int.tdiv a0 (wrap64 (-t171)))),.int .i64 0]) ?_ 1 _ rfl;(with_reducible repeat (first|refine blk_drewN ?_ _|refine blk_drew ?_|refine blk_alloc ?_ _));refine blk_put (cs:=#[.int .i64 0,.int .i64 0]) ?_ 0 _ rfl;(with_reducible repeat (first|refine blk_drewN ?_ _|refine blk_drew ?_|refine blk_alloc ?_ _));exact i1_):p:=h x1
theorem Z30 {p a1:Prop} (x1:a1) (h:a1→p:=by intro i1_;(with_reducible repeat (first|refine blk_drewN ?_ _|refine blk_drew ?_|refine blk_alloc ?_ _));refine blk_put (cs:=#[.int .i64 (wrap64 (Int.tdiv x0_5 t502)),.int .i64 0]) ?_ 1 _ rfl;(with_reducible repeat (first|refine blk_drewN ?_ _|refine blk_drew ?_|refine blk_alloc ?_ _));refine blk_put (cs:=#[.int .i64 0,.int .i64 0]) ?_ 0 _ rfl;(with_reducible repeat (first|refine blk_drewN ?_ _|refine blk_drew ?_|refine blk_alloc ?_ _));exact i1_):p:=h x1
theorem Z31 {p a1:Prop} (x1:a1) (h:a1→p:=by intro i1_;(with_reducible repeat (first|refine blk_drewN ?_ _|refine blk_drew ?_|refine blk_alloc ?_ _));refine blk_put (cs:=#[.int .i64 (wrap64 (Int.tdiv a0 t171)),.int .i64 0]) ?_ 1 _ rfl;(with_reducible repeat (first|refine blk_drewN ?_ _|refine blk_drew ?_|refine blk_alloc ?_ _));refine blk_put (cs:=#[.int .i64 0,.int .i64 0]) ?_ 0 _ rfl;(with_reducible repeat (first|refine blk_drewN ?_ _|refine blk_drew ?_|refine blk_alloc ?_ _));exact i1_):p:=h x1
theorem Z32 {p a1:Prop} (x1:a1) (h:a1→p:=by intro i1_;(with_reducible repeat (first|refine blk_drewN ?_ _|refine blk_drew ?_|refine blk_alloc ?_ _));refine blk_put (cs:=#[.int .i64 t628,.int .i64 0]) ?_ 1 _ rfl;(with_reducible repeat (first|refine blk_drewN ?_ _|refine blk_drew ?_|refine blk_alloc ?_ _));refine blk_put (cs:=#[.int .i64 0,.int .i64 0]) ?_ 0 _ rfl;(with_reducible repeat (first|refine blk_drewN ?_ _|refine blk_drew ?_|refine blk_alloc ?_ _));exact i1_):p:=h x1
theorem Z33 {p a1:Prop} (x1:a1) (h:a1→p:=by intro i1_;(with_reducible repeat (first|refine blk_drewN ?_ _|refine blk_drew ?_|refine blk_alloc ?_ _));refine blk_put (cs:=#[.int .i64 t600,.int .i64 0]) ?_ 1 _ rfl;(with_reducible repeat (first|refine blk_drewN ?_ _|refine blk_drew ?_|refine blk_alloc ?_ _));refine blk_put (cs:=#[.int .i64 0,.int .i64 0]) ?_ 0 _ rfl;(with_reducible repeat (first|refine blk_drewN ?_ _|refine blk_drew ?_|refine blk_alloc ?_ _));exact i1_):p:=h x1
theorem Z34 {p a1:Prop} (x1:a1) (h:a1→p:=by intro i1_;(with_reducible repeat (first|refine blk_drewN ?_ _|refine blk_drew ?_|refine blk_alloc ?_ _));refine blk_put (cs:=#[.int .i64 t524,.int .i64 0]) ?_ 1 _ rfl;(with_reducible repeat (first|refine blk_drewN ?_ _|refine blk_drew ?_|refine blk_alloc ?_ _));refine blk_put (cs:=#[.int .i64 0,.int .i64 0]) ?_ 0 _ rfl;(with_reducible repeat (first|refine blk_drewN ?_ _|refine blk_drew ?_|refine blk_alloc ?_ _));exact i1_):p:=h x1
theorem Z35 {p a1 a2:Prop} (x1:a1) (x2:a2) (h:a1→a2→p:=by intro i1_ i2_;(try simp only [i1_]);(with_reducible repeat (first|apply Kd.R_alloc|apply Kd.R_drewN|apply Kd.R_drew));exact i2_):p:=h x1 x2
theorem Z36 {p a1:Prop} (x1:a1) (h:a1→p:=by intro i1_;(with_reducible repeat (first|apply Kd.R_alloc|apply Kd.R_drewN|apply Kd.R_drew));exact Kd.R_mono i1_ (fun _ hk=>⟨hk.1.2,⟨hk.1.1,hk.2⟩⟩)):p:=h x1
theorem Z37 {p a1:Prop} (x1:a1) (h:a1→p:=by intro i1_;(with_reducible repeat (first|apply Kd.V_alloc|apply Kd.V_drewN|apply Kd.V_drew));exact Kd.V_mono (Kd.V_far (p:=⟨gb527,1,none⟩) (Kd.V_far (p:=⟨gb527,0,none⟩) (Kd.V_mono i1_ (fun k_ hk=>(⟨hk,hk.2.2⟩:_∧k_≠gb527))) (fun _ hk=>hk.2) (.int .i64 t524)) (fun _ hk=>hk.2) (.int .i64 t525)) (fun _ hk=>⟨hk.1.2.1,⟨hk.1.1,hk.1.2.2⟩⟩)):p:=h x1
theorem Z38 {p a1:Prop} (x1:a1) (h:a1→p:=by intro i1_;(with_reducible repeat (first|apply Kd.N_alloc|apply Kd.N_drewN|apply Kd.N_drew));exact Kd.N_mono i1_ (fun _ hk=>hk.1)):p:=h x1
theorem Z39 {p a1 a2:Prop} (x1:a1) (x2:a2) (h:a1→a2→p:=by intro i1_ i2_;(with_reducible repeat (first|refine blk_drewN ?_ _|refine blk_drew ?_|refine blk_alloc ?_ _));refine blk_put (cs:=#[.int .i64 0,.int .i64 x597001_1]) ?_ 1 _ rfl;(with_reducible repeat (first|refine blk_drewN ?_ _|refine blk_drew ?_|refine blk_alloc ?_ _));refine blk_put (cs:=#[.int .i64 x597000_1,.int .i64 x597001_1]) ?_ 0 _ rfl;(with_reducible repeat (first|refine blk_drewN ?_ _|refine blk_drew ?_|refine blk_alloc ?_ _));refine blk_far ?_ i1_ _;(with_reducible repeat (first|refine blk_drewN ?_ _|refine blk_drew ?_|refine blk_alloc ?_ _));refine blk_far ?_ i1_ _;(with_reducible repeat (first|refine blk_drewN ?_ _|refine blk_drew ?_|refine blk_alloc ?_ _));exact i2_):p:=h x1 x2
theorem Z40 {p:Prop} (h:p:=by first|omega|exact Nat.le_refl _):p:=h
theorem Z41 {p:Prop} (h:p:=by simp only [putAll,Act.put,aQ,zQ,sQ]):p:=h
theorem Z42 {p a1:Prop} (x1:a1) (h:a1→p:=by intro i1_;(with_reducible repeat (first|apply Kd.V_alloc|apply Kd.V_drewN|apply Kd.V_drew));exact (Kd.V_mono (Kd.V_far (p:=⟨gb527,1,none⟩) (Kd.V_far (p:=⟨gb527,0,none⟩) (Kd.V_mono i1_ (fun k_ hk=>(⟨hk,hk.2.2⟩:_∧k_≠gb527))) (fun _ hk=>hk.2) (.int .i64 t524)) (fun _ hk=>hk.2) (.int .i64 t525)) (fun _ h_=>h_.1))):p:=h x1
theorem Z43 {p a1:Prop} (x1:a1) (h:a1→p:=by intro i1_;(with_reducible repeat (first|apply Kd.R_alloc|apply Kd.R_drewN|apply Kd.R_drew));exact (Kd.R_mono (Kd.R_far (p:=⟨gb631,1,none⟩) (Kd.R_far (p:=⟨gb631,0,none⟩) (Kd.R_mono i1_ (fun k_ hk=>(⟨hk,hk.2⟩:_∧k_≠gb631))) (fun _ hk=>hk.2) (.int .i64 t628)) (fun _ hk=>hk.2) (.int .i64 t629)) (fun _ h_=>h_.1))):p:=h x1
theorem Z44 {p a1 a2:Prop} (x1:a1) (x2:a2) (h:a1→a2→p:=by intro i1_ i2_;first|exact Kd.own_blk (Kd.R_ne i1_ i2_ (Z19))|(rw [add_block];exact Kd.own_blk (Kd.R_ne i1_ i2_ (Z19)))|(show (Addr.add _ _).block≠_;rw [add_block];exact Kd.own_blk (Kd.R_ne i1_ i2_ (Z19)))|(dsimp only;exact Kd.own_blk (Kd.R_ne i1_ i2_ (Z19)))):p:=h x1 x2
theorem Z45 {p a1:Prop} (x1:a1) (h:a1→p:=by intro i1_;rw [← hq_];exact (by (with_reducible repeat (first|apply Kd.N_alloc|apply Kd.N_drewN|apply Kd.N_drew));exact Kd.N_mono i1_ (fun _ hk=>by first|exact ⟨hk.1,⟨hk.2.2,hk.2.1⟩⟩|((repeat' apply And.intro)<;>first|exact hk.1|exact hk.2|exact hk.1.1|exact hk.1.2|exact hk.2.1|exact hk.2.2|exact hk.1.1.1|exact hk.1.1.2|exact hk.1.2.1|exact hk.1.2.2|exact hk.2.1.1|exact hk.2.1.2|exact hk.2.2.1|exact hk.2.2.2|exact hk.2.2.2.1|exact hk.2.2.2.2|exact hk.1.2.2.1|exact hk.1.2.2.2|exact hk.1.2.2.2.1|exact hk.1.2.2.2.2)))):p:=h x1
theorem Z46 {p a1 a2:Prop} (x1:a1) (x2:a2) (h:a1→a2→p:=by intro i1_ i2_;(try simp only [i1_]);(with_reducible repeat (first|apply Kd.N_alloc|apply Kd.N_drewN|apply Kd.N_drew));exact i2_):p:=h x1 x2
theorem Z47 {p:Prop} (h:p:=by omega):p:=h
theorem Z48 {p a1 a2:Prop} (x1:a1) (x2:a2) (h:a1→a2→p:=by intro i1_ i2_;(try simp only [i1_]);(with_reducible repeat (first|apply Kd.N_alloc|apply Kd.N_drewN|apply Kd.N_drew));exact Kd.N_mono i2_ (fun _ hk=>by first|exact ⟨hk.1.1,⟨hk.1.2,hk.2⟩⟩|((repeat' apply And.intro)<;>first|exact hk.1|exact hk.2|exact hk.1.1|exact hk.1.2|exact hk.2.1|exact hk.2.2|exact hk.1.1.1|exact hk.1.1.2|exact hk.1.2.1|exact hk.1.2.2|exact hk.2.1.1|exact hk.2.1.2|exact hk.2.2.1|exact hk.2.2.2|exact hk.2.2.2.1|exact hk.2.2.2.2|exact hk.1.2.2.1|exact hk.1.2.2.2|exact hk.1.2.2.2.1|exact hk.1.2.2.2.2))):p:=h x1 x2
theorem Z49 {p a1 a2:Prop} (x1:a1) (x2:a2) (h:a1→a2→p:=by intro i1_ i2_;repeat (first|exact i1_|apply Kept.alloc|apply Kept.drewN|apply Kept.drew|refine Kept.setCell ?_ i2_ _)):p:=h x1 x2
theorem Z50 {p a1:Prop} (x1:a1) (h:a1→p:=by intro i1_;first|exact Kd.N_base i1_|exact Kd.S_base i1_):p:=h x1
theorem Z51 {p a1:Prop} (x1:a1) (h:a1→p:=by intro i1_;(with_reducible repeat (first|apply Kd.N_alloc|apply Kd.N_drewN|apply Kd.N_drew));exact Kd.N_mono i1_ (fun _ hk=>⟨⟨hk.1,hk.2.2⟩,hk.2.1⟩)):p:=h x1
theorem Z52 {p a1:Prop} (x1:a1) (h:a1→p:=by intro i1_;(with_reducible repeat (first|refine blk_drewN ?_ _|refine blk_drew ?_|refine blk_alloc ?_ _));refine blk_put (cs:=#[.int .i64 t589,.int .i64 0]) ?_ 1 _ rfl;(with_reducible repeat (first|refine blk_drewN ?_ _|refine blk_drew ?_|refine blk_alloc ?_ _));refine blk_put (cs:=#[.int .i64 0,.int .i64 0]) ?_ 0 _ rfl;(with_reducible repeat (first|refine blk_drewN ?_ _|refine blk_drew ?_|refine blk_alloc ?_ _));exact i1_):p:=h x1
theorem Z53 {p a1:Prop} (x1:a1) (h:a1→p:=by intro i1_;(with_reducible repeat (first|apply Kd.V_alloc|apply Kd.V_drewN|apply Kd.V_drew));(first|exact i1_|exact Kd.V_mono i1_ (fun _ hk=>hk.1))):p:=h x1
theorem Z54 {p:Prop} (h:p:=by first|exact Kd.S_nil _ _ _ _ _|exact Kd.N_nil _ _ _ _ _|exact Kd.V_nil _ _ _ _ _|exact Kd.Q_nil _ _ _ _ _|exact Kd.R_nil _ _ _ _ _):p:=h
theorem Z55 {p:Prop} (h:p:=by first|exact ⟨hk.1,⟨hk.2.1,hk.2.2.1⟩⟩|((repeat' apply And.intro)<;>first|exact hk.1|exact hk.2|exact hk.1.1|exact hk.1.2|exact hk.2.1|exact hk.2.2|exact hk.1.1.1|exact hk.1.1.2|exact hk.1.2.1|exact hk.1.2.2|exact hk.2.1.1|exact hk.2.1.2|exact hk.2.2.1|exact hk.2.2.2|exact hk.2.2.2.1|exact hk.2.2.2.2|exact hk.1.2.2.1|exact hk.1.2.2.2|exact hk.1.2.2.2.1|exact hk.1.2.2.2.2)):p:=h
theorem Z56 {p a1:Prop} (x1:a1) (h:a1→p:=by intro i1_;repeat (first|(with_reducible first|exact i1_|apply below_alloc|apply pw_below_drewN|apply below_drew1)|exact i1_)):p:=h x1
theorem Z57 {p a1:Prop} (x1:a1) (h:a1→p:=by intro i1_;(with_reducible repeat (first|apply Kd.R_alloc|apply Kd.R_drewN|apply Kd.R_drew));exact (Kd.R_mono (Kd.R_far (p:=⟨gb592,1,none⟩) (Kd.R_far (p:=⟨gb592,0,none⟩) (Kd.R_mono i1_ (fun k_ hk=>(⟨hk,hk.2⟩:_∧k_≠gb592))) (fun _ hk=>hk.2) (.int .i64 t589)) (fun _ hk=>hk.2) (.int .i64 t590)) (fun _ h_=>h_.1))):p:=h x1
theorem Z58 {p a1:Prop} (x1:a1) (h:a1→p:=by intro i1_;(with_reducible repeat (first|apply Kd.R_alloc|apply Kd.R_drewN|apply Kd.R_drew));exact (Kd.R_mono (Kd.R_far (p:=⟨gb527,1,none⟩) (Kd.R_far (p:=⟨gb527,0,none⟩) (Kd.R_mono i1_ (fun k_ hk=>(⟨hk,hk⟩:_∧k_≠gb527))) (fun _ hk=>hk.2) (.int .i64 t524)) (fun _ hk=>hk.2) (.int .i64 t525)) (fun _ h_=>h_.1))):p:=h x1
theorem Z59 {p a1:Prop} (x1:a1) (h:a1→p:=by intro i1_;have:=i1_;first|omega|exact Nat.le_refl _):p:=h x1
theorem Z60 {p a1:Prop} (x1:a1) (h:a1→p:=by intro i1_;have:=i1_;omega):p:=h x1
theorem Z61 {p a1:Prop} (x1:a1) (h:a1→p:=by intro i1_;have h_:(t394:Int)<((x10_2.length:Int):Int):=zd;first|exact h_|(have e_:=(Kd.R_reads' i1_).1;omega)|simpa using h_):p:=h x1
theorem Z62 {p a1 a2:Prop} (x1:a1) (x2:a2) (h:a1→a2→p:=by intro i1_ i2_;repeat (first|exact (Kd.C_below i1_ (zb i2_))|(with_reducible refine Kd.C_alloc ?_ _)|(with_reducible refine Kd.C_drewN ?_ _)|(with_reducible refine Kd.C_drew ?_))):p:=h x1 x2
theorem Z63 {p a1:Prop} (x1:a1) (h:a1→p:=by intro i1_;(with_reducible repeat (first|apply Kd.R_alloc|apply Kd.R_drewN|apply Kd.R_drew));exact Kd.R_mono i1_ (fun _ hk=>⟨hk.1.2,⟨hk.2,hk.1.1.2⟩⟩)):p:=h x1
theorem Z64 {p a1:Prop} (x1:a1) (h:a1→p:=by intro i1_;(with_reducible repeat (first|apply Kd.V_alloc|apply Kd.V_drewN|apply Kd.V_drew));exact Kd.V_mono i1_ (fun _ hk=>⟨⟨hk.2.1,hk.2.2⟩,hk.1⟩)):p:=h x1
theorem Z65 {p a1:Prop} (x1:a1) (h:a1→p:=by intro i1_;(with_reducible repeat (first|apply Kd.S_alloc|apply Kd.S_drewN|apply Kd.S_drew));exact Kd.S_mono i1_ (fun k_ hk=>⟨trivial,fun e_=>hk.2 e_⟩)):p:=h x1
theorem Z66 {p a1:Prop} (x1:a1) (h:a1→p:=by intro i1_;(with_reducible repeat (first|apply Kd.N_alloc|apply Kd.N_drewN|apply Kd.N_drew));exact Kd.N_mono i1_ (fun _ hk=>⟨hk.1.1,⟨hk.2,hk.1.2⟩⟩)):p:=h x1
theorem Z67 {p:Prop} (h:p:=by first|go_num|rfl|(simp;done)|(simp [*];done)):p:=h
theorem Z68 {p a1 a2:Prop} (x1:a1) (x2:a2) (h:a1→a2→p:=by intro i1_ i2_;(with_reducible repeat (first|apply Kd.S_alloc|apply Kd.S_drewN|apply Kd.S_drew));exact (Kd.S_mono (Kd.S_far (p:=⟨gb651,1,none⟩) (Kd.S_far (p:=⟨gb651,0,none⟩) (Kd.S_types i1_ i2_ (Z19)) (fun _ hk=>hk.2) (.int .i64 t648)) (fun _ hk=>hk.2) (.int .i64 t649)) (fun _ h_=>h_.1))):p:=h x1 x2
theorem Z69 {p a1 a2:Prop} (x1:a1) (x2:a2) (h:a1→a2→p:=by intro i1_ i2_;(with_reducible repeat (first|apply Kd.S_alloc|apply Kd.S_drewN|apply Kd.S_drew));exact (Kd.S_mono (Kd.S_far (p:=⟨gb631,1,none⟩) (Kd.S_far (p:=⟨gb631,0,none⟩) (Kd.S_types i1_ i2_ (Z19)) (fun _ hk=>hk.2) (.int .i64 t628)) (fun _ hk=>hk.2) (.int .i64 t629)) (fun _ h_=>h_.1))):p:=h x1 x2
theorem Z70 {p a1 a2:Prop} (x1:a1) (x2:a2) (h:a1→a2→p:=by intro i1_ i2_;(with_reducible repeat (first|apply Kd.R_alloc|apply Kd.R_drewN|apply Kd.R_drew));exact (Kd.R_mono (Kd.R_far (p:=⟨gb647,1,none⟩) (Kd.R_far (p:=⟨gb647,0,none⟩) (Kd.R_types i1_ i2_ (Z19)) (fun _ hk=>hk.2) (.int .i64 t644)) (fun _ hk=>hk.2) (.int .i64 t645)) (fun _ h_=>h_.1))):p:=h x1 x2
theorem Z71 {p a1 a2:Prop} (x1:a1) (x2:a2) (h:a1→a2→p:=by intro i1_ i2_;(with_reducible repeat (first|apply Kd.R_alloc|apply Kd.R_drewN|apply Kd.R_drew));exact (Kd.R_mono (Kd.R_far (p:=⟨gb631,1,none⟩) (Kd.R_far (p:=⟨gb631,0,none⟩) (Kd.R_types i1_ i2_ (Z19)) (fun _ hk=>hk.2) (.int .i64 t628)) (fun _ hk=>hk.2) (.int .i64 t629)) (fun _ h_=>h_.1))):p:=h x1 x2
theorem Z72 {p a1 a2:Prop} (x1:a1) (x2:a2) (h:a1→a2→p:=by intro i1_ i2_;(with_reducible repeat (first|apply Kd.Q_alloc|apply Kd.Q_drewN|apply Kd.Q_drew));exact (Kd.Q_mono (Kd.Q_far (p:=⟨gb651,1,none⟩) (Kd.Q_far (p:=⟨gb651,0,none⟩) (Kd.Q_types i1_ i2_ (Z19)) (fun _ hk=>hk.2) (.int .i64 t648)) (fun _ hk=>hk.2) (.int .i64 t649)) (fun _ h_=>h_.1))):p:=h x1 x2
theorem Z73 {p a1 a2:Prop} (x1:a1) (x2:a2) (h:a1→a2→p:=by intro i1_ i2_;(with_reducible repeat (first|apply Kd.Q_alloc|apply Kd.Q_drewN|apply Kd.Q_drew));exact (Kd.Q_mono (Kd.Q_far (p:=⟨gb631,1,none⟩) (Kd.Q_far (p:=⟨gb631,0,none⟩) (Kd.Q_types i1_ i2_ (Z19)) (fun _ hk=>hk.2) (.int .i64 t628)) (fun _ hk=>hk.2) (.int .i64 t629)) (fun _ h_=>h_.1))):p:=h x1 x2
theorem Z74 {p a1:Prop} (x1:a1) (h:a1→p:=by intro i1_;(with_reducible repeat (first|apply Kd.S_alloc|apply Kd.S_drewN|apply Kd.S_drew));exact Kd.S_mono i1_ (fun _ hk=>⟨trivial,hk⟩)):p:=h x1
theorem Z75 {p:Prop} (h:p:=by (try simp only [List.map_toArray,List.map_cons,List.map_nil]);first|done|rfl):p:=h
theorem Z76 {p a1:Prop} (x1:a1) (h:a1→p:=by intro i1_;(with_reducible repeat (first|apply Kd.R_alloc|apply Kd.R_drewN|apply Kd.R_drew));exact Kd.R_mono i1_ (fun _ hk=>hk.1)):p:=h x1
theorem Z77 {p a1:Prop} (x1:a1) (h:a1→p:=by intro i1_;(with_reducible repeat (first|apply Kd.Q_alloc|apply Kd.Q_drewN|apply Kd.Q_drew));exact Kd.Q_mono i1_ (fun _ hk=>hk.2)):p:=h x1
theorem Z78 {p a1 a2 a3:Prop} (x1:a1) (x2:a2) (x3:a3) (h:a1→a2→a3→p:=by intro i1_ i2_ i3_;(try simp only [i1_]);(try simp only [i2_]);(with_reducible repeat (first|apply Kd.R_alloc|apply Kd.R_drewN|apply Kd.R_drew));exact i3_):p:=h x1 x2 x3
theorem Z79 {p a1:Prop} (x1:a1) (h:a1→p:=by intro i1_;repeat (first|(with_reducible exact (Kd.V_reads' i1_).2.2)|(with_reducible refine Kd.C_alloc ?_ _)|(with_reducible refine Kd.C_drewN ?_ _)|(with_reducible refine Kd.C_drew ?_)|exact (Kd.V_reads' i1_).2.2)):p:=h x1
theorem Z80 {p a1:Prop} (x1:a1) (h:a1→p:=by intro i1_;have h_:(0:Int)<((t283.length:Int):Int):=zd;first|exact h_|(have e_:=(i1_);omega)|simpa using h_):p:=h x1
theorem Z81 {p:Prop} (h:p:=by simp):p:=h
theorem Z82 {p a1 a2 a3:Prop} (x1:a1) (x2:a2) (x3:a3) (h:a1→a2→a3→p:=by intro i1_ i2_ i3_;have:=i1_;have:=i2_;have:=i3_;omega):p:=h x1 x2 x3
theorem Z83 {p:Prop} (h:p:=by rfl):p:=h
theorem Z84 {p a1:Prop} (x1:a1) (h:a1→p:=by intro i1_;rw [← hq_];exact (by (with_reducible repeat (first|apply Kd.V_alloc|apply Kd.V_drewN|apply Kd.V_drew));exact Kd.V_mono i1_ (fun _ hk=>⟨hk.2,hk.1⟩))):p:=h x1
theorem Z85 {p a1:Prop} (x1:a1) (h:a1→p:=by intro i1_;(with_reducible repeat (first|apply Kd.V_alloc|apply Kd.V_drewN|apply Kd.V_drew));exact Kd.V_mono i1_ (fun _ hk=>⟨⟨hk.1.1,hk.2⟩,hk.1.2⟩)):p:=h x1
theorem Z86 {p a1:Prop} (x1:a1) (h:a1→p:=by intro i1_;(with_reducible repeat (first|apply Kd.N_alloc|apply Kd.N_drewN|apply Kd.N_drew));exact Kd.N_mono i1_ (fun _ hk=>⟨hk.1.1,⟨hk.1.2,hk.2⟩⟩)):p:=h x1
theorem Z87 {p a1 a2:Prop} (x1:a1) (x2:a2) (h:a1→a2→p:=by intro i1_ i2_;have:=i1_;have:=i2_;omega):p:=h x1 x2
theorem Z88 {p a1 a2 a3:Prop} (x1:a1) (x2:a2) (x3:a3) (h:a1→a2→a3→p:=by intro i1_ i2_ i3_;show Kd.R (Kd.int .i64) 3 _ _ _ (sv P.length q) _;rw [← i1_,i2_];exact Kd.R_reok rfl i3_ (fun k_ e_=>by have e2_:=e_;(try rw [i1_] at e2_);exact (Option.some.inj e2_).symm)):p:=h x1 x2 x3
theorem Z89 {p a1:Prop} (x1:a1) (h:a1→p:=by intro i1_;first|rfl|(simp [errW_none,errW_some]<;>rfl)|(simp only [← i1_];first|rfl|(simp [errW_none,errW_some]<;>rfl))|(simp [*,errW_none,errW_some]<;>rfl)):p:=h x1
theorem Z90 {p:Prop} (h:p:=by (try simp only [List.map_toArray,List.map_cons,List.map_nil]);first|done|rfl|(simp only [List.length_drop,List.length_take];rfl)):p:=h
theorem Z91 {p a1 a2:Prop} (x1:a1) (x2:a2) (h:a1→a2→p:=by intro i1_ i2_;show Kd.R (Kd.int .i64) 3 _ _ _ (sv P.length q) _;rw [← i1_];exact Kd.R_reok rfl i2_ (fun k_ e_=>by rw [i1_] at e_;exact (Option.some.inj e_).symm)):p:=h x1 x2
end Go.Proofs.YtojkepidkmkmpaaW.PrintWords
end
section
namespace Go.Proofs.Ytojkepidkmkmpaa.PFnSolved
open Go.Proofs.YtojkepidkmkmpaaW.PrintWords.Aside0 renaming mk → aM
open List renaming setIfInBounds_toArray → aQ, set_cons_zero → zQ, set_cons_succ → sQ
open Bool renaming true → tt, false → ff
open Option renaming bind_eq_some_iff → bE

open Go.RowKit Go.Proofs.YtojkepidkmkmpaaW.PrintWords Go.Proofs.YtojkepidkmkmpaaW.PrintLast Go.Proofs.YtojkepidkmkmpaaW.PrintMore
attribute [local go_sem] max2_int min2_int max_two min_two max_three min_three max_four min_four
set_option linter.unusedVariables false
set_option linter.unusedSimpArgs false
def errW:Option Int→Value
 | none=>.nilIface
 | some c=>.iface 0 (.int .i64 c)
theorem errW_none:errW none = .nilIface:=rfl
theorem errW_some (c:Int):errW (some c) = .iface 0 (.int .i64 c):=rfl
theorem info4:(Try.prog.info? 4).map (fun i=>(i.zero,i.size,i.bytes))=some (some (.bool false),1,1):=by kernel_rfl
theorem info3:(Try.prog.info? 3).map (fun i=>(i.zero,i.size,i.bytes))=some (some (.int .i64 0),1,8):=by kernel_rfl
theorem info23:(Try.prog.info? 23).map (fun i=>(i.zero,i.size,i.bytes))=some (some (.slice none 0 0),1,24):=by kernel_rfl
theorem info26:(Try.prog.info? 26).map (fun i=>(i.zero,i.size,i.bytes))=some (some (.agg #[(.int .i64 0),(.int .i64 0)]),2,16):=by kernel_rfl
def rd_L1 (xs:List (List Int)) (i:Int):(List Int):=xs.getD i.toNat ([]:List Int)
theorem at_L1 {w:World} {A:Option Addr} {n:Nat} {xs:List (List Int)} (h:Kd.C (Kd.slice 3 (Kd.int .i64)) w A n xs) (i:Int) (h0:0≤i) (h1:i<n):∃ad A0 c0,A=some ad∧w.cell? (ad.add i.toNat)=some (.slice A0 (rd_L1 xs i).length c0)∧(rd_L1 xs i).length≤c0∧(Kd.int .i64).C w A0 (rd_L1 xs i).length (rd_L1 xs i):=by
 obtain ⟨ad,c,e,_,hK,hc0⟩:=Kd.C_get h ([]:List Int) i h0 h1
 have hc:∀j u,c[j]?=some u→w.cell? (ad.add (i.toNat*1+j))=some u:=hc0
 obtain ⟨A0,c0,rfl,l0,g0⟩:=hK
 exact ⟨ad,A0,c0,e,by have hq:=hc 0 _ rfl;rwa [Nat.mul_one,Nat.add_zero] at hq,l0,g0⟩
structure S26 where
 f0 : Int
 f1 : Int
def z26:S26:=⟨(0:Int),(0:Int)⟩
def k26:Kd S26:=Kd.iso (Kd.pair (Kd.int .i64) (Kd.int .i64)) (fun x:S26=>(x.f0,x.f1))
theorem k26_open {w:World} {x:S26} {cs:List Value} (h:k26.K w x cs):cs=[.int .i64 x.f0,.int .i64 x.f1]:=by
 obtain ⟨_,_,rfl,rfl,rfl⟩:=h
 exact rfl
theorem k26_openM {w:World} {base:Nat} {ok:Nat→Prop} {x:S26} {cs:List Value} (h:k26.M w base ok x cs):cs=[.int .i64 x.f0,.int .i64 x.f1]:=by
 obtain ⟨_,_,rfl,rfl,rfl⟩:=h
 exact rfl
theorem k26_mkM (w:World) (base:Nat) (ok:Nat→Prop) (x:S26) :k26.M w base ok x [.int .i64 x.f0,.int .i64 x.f1]:=⟨[.int .i64 x.f0],[.int .i64 x.f1],rfl,rfl,rfl⟩
def rd_T26 (xs:List S26) (i:Int):S26:=xs.getD i.toNat z26
theorem at_T26 {w:World} {A:Option Addr} {n:Nat} {xs:List S26} (h:Kd.C k26 w A n xs) (i:Int) (h0:0≤i) (h1:i<n):∃ad ,A=some ad∧w.cell? (ad.add (i.toNat*2))=some (.int .i64 (rd_T26 xs i).f0)∧w.cell? ⟨(ad.add (i.toNat*2)).block,(ad.add (i.toNat*2)).off+1,none⟩=some (.int .i64 (rd_T26 xs i).f1):=by
 obtain ⟨ad,c,e,_,hK,hc0⟩:=Kd.C_get h z26 i h0 h1
 have hc:∀j u,c[j]?=some u→w.cell? (ad.add (i.toNat*2+j))=some u:=hc0
 obtain rfl:=k26_open hK
 exact ⟨ad,e,hc 0 _ rfl,by rw [← add_field _ _ 1 (by omega)];exact hc 1 _ rfl⟩
end Go.Proofs.Ytojkepidkmkmpaa.PFnSolved
end
section
namespace Go.Proofs.Ytojkepidkmkmpaa.PFnSolved
open Go.Proofs.YtojkepidkmkmpaaW.PrintWords.Aside0 renaming mk → aM
open List renaming setIfInBounds_toArray → aQ, set_cons_zero → zQ, set_cons_succ → sQ
open Bool renaming true → tt, false → ff
open Option renaming bind_eq_some_iff → bE

open Go.RowKit Go.Proofs.YtojkepidkmkmpaaW.PrintWords Go.Proofs.YtojkepidkmkmpaaW.PrintLast Go.Proofs.YtojkepidkmkmpaaW.PrintMore
attribute [local go_sem] max2_int min2_int max_two min_two max_three min_three max_four min_four
set_option linter.unusedVariables false
set_option linter.unusedSimpArgs false
theorem eqA26 (d:Nat) (w:World) (x0 y0:Int) (x1 y1:Int) :
  (Op.equalIn (d+2) 26 (.agg #[.int .i64 x0,.int .i64 x1]) (.agg #[.int .i64 y0,.int .i64 y1])).run Try.prog w = .ok (x0 == y0 && (x1 == y1)) w:=by
 refine eqA_of Try.underlying26 (by kernel_rfl) ?_
 refine eqf_cons (by rfl) (by go_simp;rfl) (by go_simp;rfl) (by go_simp) ?_
 exact eqf_last (by rfl) (by go_simp;rfl) (by go_simp;rfl) (by go_simp)
end Go.Proofs.Ytojkepidkmkmpaa.PFnSolved
end
section
namespace Go.Proofs.Ytojkepidkmkmpaa.PFnSolved
open Go.Proofs.YtojkepidkmkmpaaW.PrintWords.Aside0 renaming mk → aM
open List renaming setIfInBounds_toArray → aQ, set_cons_zero → zQ, set_cons_succ → sQ
open Bool renaming true → tt, false → ff
open Option renaming bind_eq_some_iff → bE

open Go.RowKit Go.Proofs.YtojkepidkmkmpaaW.PrintWords Go.Proofs.YtojkepidkmkmpaaW.PrintLast Go.Proofs.YtojkepidkmkmpaaW.PrintMore
attribute [local go_sem] max2_int min2_int max_two min_two max_three min_three max_four min_four
set_option linter.unusedVariables false
set_option linter.unusedSimpArgs false
def impl_InRange.f (a0:Int) (a1:Int) (a2:Int):Option (Bool):=if a1≤a0 then (some (decide (a0≤a2))) else (some false)
set_option maxHeartbeats 8000000 in
set_option maxRecDepth 100000 in
theorem impl_InRange.calls (a0 : Int) (a1 : Int) (a2 : Int) (r : Bool) (w : World) (h : impl_InRange.f a0 a1 a2 = some r) :
 Calls Try.prog 81 #[.int .i64 a0, .int .i64 a1, .int .i64 a2] w fun e w' => e = .returned (.bool r) ∧ Drawn0 w w' := by
 have H:(if a1≤a0 then (some (decide (a0≤a2))) else (some false))=some r:=h;clear h;by_cases c4:a1≤a0
 ·rw [if_pos c4] at H;have c4b0:decide (a1≤a0)=true:=decide_eq_true c4;clear c4;obtain rfl:=Option.some.inj H;go_enter Try.func81,Try.ntmps81;go_wp2;go_ret;exact ⟨zt,zz⟩
 ·rw [if_neg c4] at H;have c4b0:decide (a1≤a0)=false:=decide_eq_false c4;clear c4;obtain rfl:=Option.some.inj H;go_enter Try.func81,Try.ntmps81;go_wp2;go_ret;exact ⟨zt,zz⟩
def impl_allIn.l0:Nat→Int→Int→List Int→Int→Int→Option (Bool)
 | 0,_,_,_,_,_=>none
 | k+1,x1,x2,x9,x10,x11=>if x11<x10 then (if 0≤x11 then (if x11<(x9.length:Int) then ((impl_InRange.f (rd x9 x11) x1 x2).bind fun t102=>(if t102=true then (impl_allIn.l0 k x1 x2 x9 x10 (wrap64 (x11+1))) else (some false))) else (none)) else (none)) else (some true)
def impl_allIn.f (k:Nat) (l0:List Int) (a1:Int) (a2:Int):Option (Bool):=impl_allIn.l0 k a1 a2 l0 (l0.length:Int) 0
set_option maxHeartbeats 8000000 in
set_option maxRecDepth 100000 in
theorem impl_allIn.calls (k : Nat) (A0 : Option Addr) (c0 : Nat) (l0 : List Int) (a1 : Int) (a2 : Int) (r : Bool) (w : World) (hr0 : Kd.C (Kd.int .i64) w A0 l0.length l0) (hc0 : l0.length ≤ c0) (h : impl_allIn.f k l0 a1 a2 = some r) :
 Calls Try.prog 82 #[.slice A0 l0.length c0, .int .i64 a1, .int .i64 a2] w fun e w' => e = .returned (.bool r) ∧ Drawn0 w w' := by
 have HR0:=aM hr0;have HC0:=aM hc0;clear hr0 hc0;have H:(impl_allIn.l0 k a1 a2 l0 (l0.length:Int) 0)=some r:=h;clear h;have H':=aM H;clear H;go_enter Try.func82,Try.ntmps82;go_wp2;go_loopg [11] k (fun kq v11 w'=>∃(x11_1:Int),v11 = .int .i64 x11_1∧Aside0 (impl_allIn.l0 kq a1 a2 l0 (l0.length:Int) x11_1=some r)∧Aside0 (kq≤k)∧Drawn0 w w');(case atStart=>exact ⟨(0),zt,H',⟨Nat.le_refl _⟩,Z18⟩)
 case round=>
  clear H';obtain ⟨x11_1,rfl,HA,HK1,⟨m1,rfl⟩⟩:=hrel;cases gk with
  | zero=>exact absurd HA.out (by simp [impl_allIn.l0])
  | succ k1=>
   have H:=HA.out;clear HA;simp only [impl_allIn.l0] at H;by_cases c4:x11_1<(l0.length:Int)
   ·rw [if_pos c4] at H;have c4b0:decide (x11_1<(l0.length:Int))=true:=decide_eq_true c4;clear c4;obtain ⟨c5b0,H⟩:=iN H;obtain ⟨c6b0,H⟩:=iN H;obtain ⟨t102,A7,H⟩:=bz H;by_cases c8:t102=true
    ·subst c8;replace H:=ifT H;have H':=aM H;clear H;have p101:0≤(x11_1:Int):=zd;have q101:x11_1<(l0.length:Int):=zd;obtain ⟨ad101,e101,hx101_0⟩:=Kd.at_int HR0.out x11_1 p101 q101;cases e101;replace p101:=eq_true p101;replace q101:=eq_true q101;go_wp2_with (first|((with_reducible refine gate_callee (f:=81) rfl ?_);refine gm (some 18) Try.func81 #[.int .i64 (rd l0 x11_1),.int .i64 a1,.int .i64 a2] ?_;(with_reducible refine (impl_InRange.calls (rd l0 x11_1) a1 a2 true _ A7.out).mono ?_);rintro e w' ⟨rfl,⟨nd,rfl⟩⟩;refine ⟨_,rfl,?_⟩));go_roundg k1;(case measure=>have:=HK1.out;omega);(case rel=>exact ⟨(wrap64 (x11_1+1)),zt,H',⟨Z60 HK1.out⟩,Z18⟩)
    ·replace c8:=Bool.eq_false_iff.mpr c8;subst c8;replace H:=ifF H;obtain rfl:=Option.some.inj H;have p101:0≤(x11_1:Int):=zd;have q101:x11_1<(l0.length:Int):=zd;obtain ⟨ad101,e101,hx101_0⟩:=Kd.at_int HR0.out x11_1 p101 q101;cases e101;replace p101:=eq_true p101;replace q101:=eq_true q101;go_wp2_with (first|((with_reducible refine gate_callee (f:=81) rfl ?_);refine gm (some 18) Try.func81 #[.int .i64 (rd l0 x11_1),.int .i64 a1,.int .i64 a2] ?_;(with_reducible refine (impl_InRange.calls (rd l0 x11_1) a1 a2 false _ A7.out).mono ?_);rintro e w' ⟨rfl,⟨nd,rfl⟩⟩;refine ⟨_,rfl,?_⟩));go_ret;exact ⟨zt,zz⟩
   ·rw [if_neg c4] at H;have c4b0:decide (x11_1<(l0.length:Int))=false:=decide_eq_false c4;clear c4;obtain rfl:=Option.some.inj H;go_wp2;go_ret;exact ⟨zt,zz⟩
mutual
def impl_IsMatrix.j0 : Nat → List (List Int) → Int → Bool → Option (Bool)
 | 0, _, _, _ => none
 | k + 1, x0, x1, x14 => if x14 = true then (some false) else (impl_IsMatrix.l0 k x1 x0 (x0.length : Int) 0)
def impl_IsMatrix.l0 : Nat → Int → List (List Int) → Int → Int → Option (Bool)
 | 0, _, _, _, _ => none
 | k + 1, x1, x15, x16, x17 => if x17 < x16 then (if 0 ≤ x17 then (if x17 < (x15.length : Int) then (if ((rd_L1 x15 x17).length : Int) = x1 then ((impl_allIn.f k (rd_L1 x15 x17) (-2) 2).bind fun t105 => (if t105 = true then (impl_IsMatrix.l0 k x1 x15 x16 (wrap64 (x17 + 1))) else (some false))) else (some false)) else (none)) else (none)) else (some true)
end
def impl_IsMatrix.f (k:Nat) (l0:List (List Int)) (a1:Int):Option (Bool):=(impl_InRange.f a1 1 6).bind fun t103=>(if t103=true then (impl_IsMatrix.j0 k l0 a1 (decide ((l0.length:Int) > 12))) else (impl_IsMatrix.j0 k l0 a1 true))
set_option maxHeartbeats 8000000 in
set_option maxRecDepth 100000 in
theorem impl_IsMatrix.calls (k : Nat) (A0 : Option Addr) (c0 : Nat) (l0 : List (List Int)) (a1 : Int) (r : Bool) (w : World) (hr0 : Kd.C (Kd.slice 3 (Kd.int .i64)) w A0 l0.length l0) (hc0 : l0.length ≤ c0) (h : impl_IsMatrix.f k l0 a1 = some r) :
 Calls Try.prog 40 #[.slice A0 l0.length c0, .int .i64 a1] w fun e w' => e = .returned (.bool r) ∧ Drawn0 w w' := by
 have HR0:=aM hr0;have HC0:=aM hc0;clear hr0 hc0;have H:((impl_InRange.f a1 1 6).bind fun t103=>(if t103=true then (impl_IsMatrix.j0 k l0 a1 (decide ((l0.length:Int) > 12))) else (impl_IsMatrix.j0 k l0 a1 true)))=some r:=h;clear h;have HC3:=aM H;clear H;go_enter Try.func40,Try.ntmps40;go_upto_region 1 with (fail)
 go_cut [14] (fun v14 wc=>∃(kq:Nat) (x14_2:Bool),v14 = .bool x14_2∧Aside0 (impl_IsMatrix.j0 kq l0 a1 x14_2=some r)∧Aside0 (kq≤k)∧Drawn0 w wc)
 case first=>
  have H:=HC3.out;clear HC3;obtain ⟨t103,A4,H⟩:=bz H;by_cases c5:t103=true
  ·subst c5;replace H:=ifT H;have H':=aM H;clear H;go_wp2_with (first|((with_reducible refine gate_callee (f:=81) rfl ?_);refine gm (some 8) Try.func81 #[.int .i64 a1,.int .i64 1,.int .i64 6] ?_;(with_reducible refine (impl_InRange.calls a1 1 6 true _ A4.out).mono ?_);rintro e w' ⟨rfl,⟨nd,rfl⟩⟩;refine ⟨_,rfl,?_⟩));go_meet;(case rel=>exact ⟨_,(decide ((l0.length:Int) > 12)),zt,H',⟨Z40⟩,Z18⟩)
  ·replace c5:=Bool.eq_false_iff.mpr c5;subst c5;replace H:=ifF H;have H':=aM H;clear H;go_wp2_with (first|((with_reducible refine gate_callee (f:=81) rfl ?_);refine gm (some 8) Try.func81 #[.int .i64 a1,.int .i64 1,.int .i64 6] ?_;(with_reducible refine (impl_InRange.calls a1 1 6 false _ A4.out).mono ?_);rintro e w' ⟨rfl,⟨nd,rfl⟩⟩;refine ⟨_,rfl,?_⟩));go_meet;(case rel=>exact ⟨_,(true),zt,H',⟨Z40⟩,Z18⟩)
 case rest=>
  clear HC3;(try clear c5);obtain ⟨kq,x14_2,rfl,HA,HJ2,⟨mc2,rfl⟩⟩:=hcut;cases kq with
  | zero=>exact absurd HA.out (by simp [impl_IsMatrix.j0])
  | succ kj2=>
   have H:=HA.out;clear HA;simp only [impl_IsMatrix.j0] at H;by_cases c6:x14_2=true
   ·subst c6;replace H:=ifT H;obtain rfl:=Option.some.inj H;go_wp2;go_ret;exact ⟨zt,zz⟩
   ·replace c6:=Bool.eq_false_iff.mpr c6;subst c6;replace H:=ifF H;have H':=aM H;clear H;go_wp2;go_loopg [17] kj2 (fun kq v17 w'=>∃(x17_2:Int),v17 = .int .i64 x17_2∧Aside0 (impl_IsMatrix.l0 kq a1 l0 (l0.length:Int) x17_2=some r)∧Aside0 (kq≤kj2)∧Drawn0 w w');(case atStart=>exact ⟨(0),zt,H',⟨Nat.le_refl _⟩,Z18⟩)
    case round=>
     clear H';(try clear c5);(try clear c6);obtain ⟨x17_2,rfl,HA,HK2,⟨m2,rfl⟩⟩:=hrel;cases gk with
     | zero=>exact absurd HA.out (by simp [impl_IsMatrix.l0])
     | succ k2=>
      have H:=HA.out;clear HA;simp only [impl_IsMatrix.l0] at H;by_cases c7:x17_2<(l0.length:Int)
      ·rw [if_pos c7] at H;have c7b0:decide (x17_2<(l0.length:Int))=true:=decide_eq_true c7;clear c7;obtain ⟨c8b0,H⟩:=iN H;obtain ⟨c9b0,H⟩:=iN H;by_cases c10:((rd_L1 l0 x17_2).length:Int)=a1
       ·rw [if_pos c10] at H;have c10b0:(((rd_L1 l0 x17_2).length:Int) == a1)=true:=beq_iff_eq.mpr c10;have c10b1:(((rd_L1 l0 x17_2).length:Int) != a1)=false:=bne_eq_false_iff_eq.mpr c10;clear c10;obtain ⟨t105,A11,H⟩:=bz H;by_cases c12:t105=true
        ·subst c12;replace H:=ifT H;have H':=aM H;clear H;have p104:0≤(x17_2:Int):=zd;have q104:x17_2<(l0.length:Int):=zd;obtain ⟨ad104,A104_0,c104_0,e104,hx104_0,hl104_0,hi104_0⟩:=at_L1 HR0.out x17_2 p104 q104;cases e104;have HR104_0:=aM hi104_0;have HC104_0:=aM hl104_0;clear hi104_0 hl104_0;replace p104:=eq_true p104;replace q104:=eq_true q104;go_wp2_with (first|(go_at_call 82;(with_reducible refine (impl_allIn.calls k2 _ _ (rd_L1 l0 x17_2) (-2) 2 true _ ?side1 ?side2 A11.out).mono ?_);(case side1=>exact zc HR104_0.out);(case side2=>exact HC104_0.out);rintro e w' ⟨rfl,⟨nd,rfl⟩⟩));go_roundg k2;(case measure=>have:=HJ2.out;have:=HK2.out;omega);(case rel=>exact ⟨(wrap64 (x17_2+1)),zt,H',⟨Z87 HJ2.out HK2.out⟩,Z18⟩)
        ·replace c12:=Bool.eq_false_iff.mpr c12;subst c12;replace H:=ifF H;obtain rfl:=Option.some.inj H;have p104:0≤(x17_2:Int):=zd;have q104:x17_2<(l0.length:Int):=zd;obtain ⟨ad104,A104_0,c104_0,e104,hx104_0,hl104_0,hi104_0⟩:=at_L1 HR0.out x17_2 p104 q104;cases e104;have HR104_0:=aM hi104_0;have HC104_0:=aM hl104_0;clear hi104_0 hl104_0;replace p104:=eq_true p104;replace q104:=eq_true q104;go_wp2_with (first|(go_at_call 82;(with_reducible refine (impl_allIn.calls k2 _ _ (rd_L1 l0 x17_2) (-2) 2 false _ ?side1 ?side2 A11.out).mono ?_);(case side1=>exact zc HR104_0.out);(case side2=>exact HC104_0.out);rintro e w' ⟨rfl,⟨nd,rfl⟩⟩));go_ret;exact ⟨zt,zz⟩
       ·rw [if_neg c10] at H;have c10b0:(((rd_L1 l0 x17_2).length:Int) == a1)=false:=beq_eq_false_iff_ne.mpr c10;have c10b1:(((rd_L1 l0 x17_2).length:Int) != a1)=true:=bne_iff_ne.mpr c10;obtain rfl:=Option.some.inj H;have p104:0≤(x17_2:Int):=zd;have q104:x17_2<(l0.length:Int):=zd;obtain ⟨ad104,A104_0,c104_0,e104,hx104_0,hl104_0,hi104_0⟩:=at_L1 HR0.out x17_2 p104 q104;cases e104;have HR104_0:=aM hi104_0;have HC104_0:=aM hl104_0;clear hi104_0 hl104_0;replace p104:=eq_true p104;replace q104:=eq_true q104;go_wp2;go_ret;exact ⟨zt,zz⟩
      ·rw [if_neg c7] at H;have c7b0:decide (x17_2<(l0.length:Int))=false:=decide_eq_false c7;clear c7;obtain rfl:=Option.some.inj H;go_wp2;go_ret;exact ⟨zt,zz⟩
theorem slices_Clone_int_int_95.eql_nil (w:World) (t e:TypeId) (a:Option Addr) (n c:Nat) (h:Try.prog.underlying t=some (.slice e)) :
  (Go.binOp .eql t (.slice a n c) (.slice none 0 0)).run Try.prog w = .ok (.bool a.isNone) w:=Go.Lib.run_eql_slice_nil w t e a n c 0 0 h
def slices_Clone_int_int_95.f (l0:List Int):Option (List Int):=(some (([]:List Int):List Int)).bind fun y106=>(if y106.length+l0.length<17592186044416 then (some (y106 ++ l0)) else (none))
set_option maxHeartbeats 8000000 in
set_option maxRecDepth 100000 in
theorem slices_Clone_int_int_95.calls (A0 : Option Addr) (c0 : Nat) (l0 : List Int) (r : List Int) (w : World) (hr0 : Kd.C (Kd.int .i64) w A0 l0.length l0) (hc0 : l0.length ≤ c0) (h : slices_Clone_int_int_95.f l0 = some r) :
 Calls Try.prog 95 #[.slice A0 l0.length c0] w fun e w' => ∃ v0_ : Value, e = .returned (v0_) ∧ Kd.R (Kd.int .i64) 3 w' w.heap.size (fun _ => True) v0_ r ∧ Below w.heap.size w w' := by
 have HR0:=aM hr0;have HC0:=aM hc0;clear hr0 hc0;cases A0 with
 | none=>
  have hl:l0=[]:=by
   cases l0 with
   | nil=>rfl
   | cons a l=>
    obtain ⟨ad,e,_⟩:=HR0.out.2.2 (Z81);cases e
  subst hl;have hr:r=[]:=(by simpa [slices_Clone_int_int_95.f] using h.symm);subst hr;clear h;have heq:∀W:World,(Go.binOp .eql 23 (.slice none 0 c0) (.slice none 0 0)).run Try.prog W = .ok (.bool true) W:=fun W=>slices_Clone_int_int_95.eql_nil W 23 _ _ _ _ Try.underlying23;go_enter Try.func95,Try.ntmps95;go_wp2;go_ret;exact ⟨_,rfl,Kd.R_nil _ _ _ _ _,Below.refl _ _⟩
 | some ad0=>
  have heq:∀W:World,(Go.binOp .eql 23 (.slice (some ad0) l0.length c0) (.slice none 0 0)).run Try.prog W = .ok (.bool false) W:=fun W=>slices_Clone_int_int_95.eql_nil W 23 _ _ _ _ Try.underlying23;have HB:=aM (Below.refl w.heap.size w);have H:((some (([]:List Int):List Int)).bind fun y106=>(if y106.length+l0.length<17592186044416 then (some (y106 ++ l0)) else (none)))=some r:=h;clear h;obtain ⟨y106,hy106⟩:∃y_:List Int,y_=(([]:List Int)):=⟨_,rfl⟩;replace H:(if y106.length+l0.length<17592186044416 then (some (y106 ++ l0)) else (none))=some r:=(Z2 hy106);have Ny106:=aM hy106;clear hy106;by_cases c2:y106.length+l0.length<17592186044416
  ·rw [if_pos c2] at H;have LMc2:=aM c2;clear c2;obtain ⟨y109,hy109⟩:∃y_:List Int,y_=(y106 ++ l0):=⟨_,rfl⟩;replace H:(some y109)=some r:=(Z2 hy109);have Ny109:=aM hy109;clear hy109;obtain rfl:=Option.some.inj H;go_enter Try.func95,Try.ntmps95;go_wp2_with (first|((with_reducible refine gate_dst (N:=5) rfl ?_);refine Kd.R_lit (Kd.int .i64) _ 3 ?hg (N:=5) ?hd (xs:=([]:List Int)) (inner:=[]) (ok:=fun _=>True) (okp:=fun _=>True) ?hr ?hp (fun _ hk=>hk) trivial (Below.refl _ _) (Nat.le_refl _) (Z81) ?_;(case hd=>rfl);(case hg=>rfl);(case hr=>exact (Z9));(case hp=>exact (Reps.none _ _));intro v107 w3 ho4 hb hg_ hnew_;clear hg_ hnew_;(first|rw [← Ny106.out] at ho4|(simp only [Int.reduceToNat] at ho4;rw [← Ny106.out] at ho4));have HO108:=aM (Kd.R_lower ho4 (below_size (zb HB.out)));replace HB:=aM (below_step (zb HB.out) hb);clear hb ho4)|((with_reducible refine gate_builtin (b:=.append) (xs:=#[.tmp 5,.tmp 6]) rfl ?_);at_builtin;refine Kd.R_append_rows (Kd.int .i64) (w0:=w) w.heap.size rfl (.tmp 5) (.tmp 6) 23 3 (.int .i64 0) 8 rfl Try.underlying23 info3 rfl (Z19) (Z47) v107 y106 l0 _ _ _ (fun _=>True) (fun _=>False) rfl rfl ?aO ?aR (fun _ _ h=>h) (fun _ h=>h.elim) ?aF ?aB ?aS ?aL ?_;(case aR=>exact zc (Kd.C_below HR0.out HB.out));(case aB=>exact (zb HB.out));(case aF=>exact (fun _ _=>trivial));(case aO=>exact (zr HO108.out));(case aS=>exact (below_size (zb HB.out)));(case aL=>have:=LMc2.out;omega);intro v110 w5 ho hb hg hat;rw [← Ny109.out] at ho;replace HB:=aM (hb);have HO111:=aM (ho);clear HO108 ho hb hg hat));go_ret;exact ⟨_,Z7,zr HO111.out,zb HB.out⟩
  ·rw [if_neg c2] at H;exact absurd H (Z81)
def impl_copyRows.l0:Nat→List (List Int)→List (List Int)→Int→Int→Option ((List (List Int)))
 | 0,_,_,_,_=>none
 | k+1,x3,x6,x7,x8=>if x8<x7 then (if 0≤x8 then (if x8<(x6.length:Int) then ((slices_Clone_int_int_95.f (rd_L1 x6 x8)).bind fun t113=>(if x3.length<5864062014805 then (impl_copyRows.l0 k (x3 ++ [t113]) x6 x7 (wrap64 (x8+1))) else (none))) else (none)) else (none)) else (some x3)
def impl_copyRows.f (k:Nat) (l0:List (List Int)):Option ((List (List Int))):=impl_copyRows.l0 k ([]:List (List Int)) l0 (l0.length:Int) 0
set_option maxHeartbeats 8000000 in
set_option maxRecDepth 100000 in
theorem impl_copyRows.calls (k : Nat) (A0 : Option Addr) (c0 : Nat) (l0 : List (List Int)) (r : List (List Int)) (w : World) (hr0 : Kd.C (Kd.slice 3 (Kd.int .i64)) w A0 l0.length l0) (hc0 : l0.length ≤ c0) (h : impl_copyRows.f k l0 = some r) :
 Calls Try.prog 104 #[.slice A0 l0.length c0] w fun e w' => ∃ v0_ : Value, e = .returned (v0_) ∧ Kd.S (Kd.slice 3 (Kd.int .i64)) 23 w' w.heap.size (fun _ => True) v0_ r ∧ Below w.heap.size w w' := by
 have HR0:=aM hr0;have HC0:=aM hc0;clear hr0 hc0;have HB:=aM (Below.refl w.heap.size w);have H:(impl_copyRows.l0 k ([]:List (List Int)) l0 (l0.length:Int) 0)=some r:=h;clear h;have H':=aM H;clear H;go_enter Try.func104,Try.ntmps104;go_wp2;go_loopg [3,8] k (fun kq v3 v8 w'=>∃(x3_1:List (List Int)) (x8_1:Int),v8 = .int .i64 x8_1∧Aside0 (impl_copyRows.l0 kq x3_1 l0 (l0.length:Int) x8_1=some r)∧Aside0 (kq≤k)∧Aside0 (Kd.S (Kd.slice 3 (Kd.int .i64)) 23 w' w.heap.size (fun _=>True) v3 x3_1)∧Aside0 (Below w.heap.size w w'));(case atStart=>exact ⟨(([]:List (List Int))),(0),zt,H',⟨Nat.le_refl _⟩,⟨Z54⟩,⟨zb HB.out⟩⟩)
 case round=>
  clear H';obtain ⟨x3_1,x8_1,rfl,HA,HK1,HO_3,HB⟩:=hrel;cases gk with
  | zero=>exact absurd HA.out (by simp [impl_copyRows.l0])
  | succ k1=>
   have H:=HA.out;clear HA;simp only [impl_copyRows.l0] at H;by_cases c2:x8_1<(l0.length:Int)
   ·rw [if_pos c2] at H;have c2b0:decide (x8_1<(l0.length:Int))=true:=decide_eq_true c2;clear c2;obtain ⟨c3b0,H⟩:=iN H;obtain ⟨c4b0,H⟩:=iN H;obtain ⟨t113,A5,H⟩:=bz H;by_cases c6:x3_1.length<5864062014805
    ·rw [if_pos c6] at H;have LMc6:=aM c6;clear c6;obtain ⟨y116,hy116⟩:∃y_:List (List Int),y_=(x3_1 ++ [t113]):=⟨_,rfl⟩;replace H:(impl_copyRows.l0 k1 y116 l0 (l0.length:Int) (wrap64 (x8_1+1)))=some r:=(Z2 hy116);have Ny116:=aM hy116;clear hy116;have H':=aM H;clear H;have p112:0≤(x8_1:Int):=zd;have q112:x8_1<(l0.length:Int):=zd;obtain ⟨ad112,A112_0,c112_0,e112,hx112_0,hl112_0,hi112_0⟩:=at_L1 HR0.out x8_1 p112 q112;cases e112;replace hx112_0:=zx HB.out hx112_0;have HR112_0:=aM hi112_0;have HC112_0:=aM hl112_0;clear hi112_0 hl112_0;replace p112:=eq_true p112;replace q112:=eq_true q112;go_wp2_with (first|((with_reducible refine gate_callee (f:=95) rfl ?_);refine gm (some 14) Try.func95 #[.slice A112_0 (rd_L1 l0 x8_1).length c112_0] ?_;(with_reducible refine (slices_Clone_int_int_95.calls _ _ (rd_L1 l0 x8_1) t113 _ ?side1 ?side2 A5.out).mono ?_);(case side1=>exact zc (Kd.C_below HR112_0.out HB.out));(case side2=>exact HC112_0.out);rintro e w7 ⟨v114,rfl,ho0,hb⟩;refine ⟨_,rfl,?_⟩;replace HO_3:=aM (Kd.S_elder' (Z8 HO_3.out) (Kd.R_base ho0) hb);have HO115:=aM (Kd.R_lower ho0 (below_size (zb HB.out)));replace HB:=aM (below_step (zb HB.out) hb);(try clear hb);(try clear ho0);obtain ⟨Ao9,co9,eo9⟩:=Kd.R_slice HO115.out;subst eo9)|((with_reducible refine gate_builtin (b:=.append) (xs:=#[.tmp 12,.tmp 15]) rfl ?_);at_builtin;refine Kd.S_append (Kd.slice 3 (Kd.int .i64)) (w0:=w) w.heap.size rfl (.tmp 12) (.tmp 15) 22 23 (.slice none 0 0) 24 rfl Try.underlying22 info23 rfl (Z19) (Z47) u3 x3_1 t113 [.slice Ao9 t113.length co9] (fun _=>True) (fun k_=>some k_=(.slice Ao9 t113.length co9:Value).ownBlock) rfl rfl ?aP (fun k_ hk_=>((Kd.R_mono (ok':=fun k_=>((fun _=>True)) k_∧some k_≠(u3:Value).ownBlock) (Kd.R_apart' (HO115.out) (Kd.S_typed HO_3.out) (Z19)) (fun k_ hk=>⟨trivial,hk.2⟩))).1 k_ hk_.symm) ?aF ?aO ?aB ?aS ?aL ?_;(case aP=>exact Kd.M_row (Kd.R_mono (Kd.R_tight rfl (Kd.R_mono (ok':=fun k_=>((fun _=>True)) k_∧some k_≠(u3:Value).ownBlock) (Kd.R_apart' (HO115.out) (Kd.S_typed HO_3.out) (Z19)) (fun k_ hk=>⟨trivial,hk.2⟩))) (fun _ h_=>h_)));(case aB=>exact (zb HB.out));(case aF=>exact (fun _ _=>trivial));(case aO=>exact (Z65 HO_3.out));(case aS=>exact (below_size (zb HB.out)));(case aL=>have:=LMc6.out;omega);intro v117 w8 ho hb hg hat;rw [← Ny116.out] at ho;replace HB:=aM (hb);have HO118:=aM (ho);clear HO_3 HO115 ho hb hg hat));go_roundg k1;(case measure=>have:=HK1.out;omega);(case rel=>exact ⟨(y116),(wrap64 (x8_1+1)),zt,H',⟨Z60 HK1.out⟩,⟨Z8 HO118.out⟩,⟨zb HB.out⟩⟩)
    ·rw [if_neg c6] at H;exact absurd H (Z81)
   ·rw [if_neg c2] at H;have c2b0:decide (x8_1<(l0.length:Int))=false:=decide_eq_false c2;clear c2;obtain rfl:=Option.some.inj H;go_wp2;go_ret;exact ⟨_,Z7,Z8 HO_3.out,zb HB.out⟩
theorem slices_IndexFunc_int_int_96.goesV {P : Program} {ops : Array Oper} {Q : Exit → Act → World → Prop} {rest : List Oper} {oi : Oper} {a : Act} {w : World} (N : Option Tmp) (hd : oi.dst = N) (hg : oi.guard = none) {f : FuncId} {fn : Func} {x : Operand} {asx : Array Operand} {ts : Array TypeId} {lb : Array Value} (hf : P.funcs[f]? = some fn) (hname : (fn.name == "runtime.NumGoroutine") = false) (hb : fn.body.isSome = true) (args : Array Value)
  (hop : oi.op = .call { callee := .value x, args := asx, argTypes := ts }) (hx : a.eval x = .func (.func f) #[] lb) (hargs : asx.map a.eval ++ lb = args)
  (h : Calls P f args w fun e w' => ∃ v, e = .returned v ∧ wpList P ops Q rest (a.put N v) w') : wpList P ops Q (oi :: rest) a w := by
 refine wpList_plain hg fun K hK => ?_
 have he := enters_ hf hname hb args w
 have hx' : a.eval x = .func (.func f) #[] lb := hx
 have hargs' : asx.map a.eval ++ lb = args := hargs
 have hrun : (execOp a.eval oi).run P w = .ok (.enter f args) w := by
  unfold execOp
  simp [hop, resolve, Deferred.ofValue, invoke, hx', hargs', he]
 unfold Oper.wp
 rw [hrun, Oper.upon_enter]
 refine h.mono fun e w'' hh => ?_
 obtain ⟨v, rfl, hk⟩ := hh
 subst hd
 exact hK _ _ hk
theorem slices_IndexFunc_int_int_96.pred (n:Int) (w:World):Calls Try.prog 97 #[.int .i64 n] w fun e w'=>e = .returned (.bool (n != 0))∧Drawn0 w w':=by
 go_enter Try.func97,Try.ntmps97
 go_wp2
 go_ret
 exact ⟨by first|rfl|(simp;done),by repeat (first|exact Drawn0.refl _|apply Drawn0.step)⟩
def slices_IndexFunc_int_int_96.l0:Nat→List Int→Int→Int→Option (Int)
 | 0,_,_,_=>none
 | k+1,x0,x7,x8=>if x8<x7 then (if 0≤x8 then (if x8<(x0.length:Int) then (if (rd x0 x8)=0 then (slices_IndexFunc_int_int_96.l0 k x0 x7 (wrap64 (x8+1))) else (some x8)) else (none)) else (none)) else (some (-1))
def slices_IndexFunc_int_int_96.f (k:Nat) (l0:List Int):Option (Int):=slices_IndexFunc_int_int_96.l0 k l0 (l0.length:Int) 0
set_option maxHeartbeats 8000000 in
set_option maxRecDepth 100000 in
theorem slices_IndexFunc_int_int_96.calls (k : Nat) (A0 : Option Addr) (c0 : Nat) (l0 : List Int) (r : Int) (w : World) (hr0 : Kd.C (Kd.int .i64) w A0 l0.length l0) (hc0 : l0.length ≤ c0) (h : slices_IndexFunc_int_int_96.f k l0 = some r) :
 Calls Try.prog 96 #[.slice A0 l0.length c0, .func (.func 97) #[] #[]] w fun e w' => e = .returned (.int .i64 r) ∧ Drawn0 w w' := by
 have HR0:=aM hr0;have HC0:=aM hc0;clear hr0 hc0;have H:(slices_IndexFunc_int_int_96.l0 k l0 (l0.length:Int) 0)=some r:=h;clear h;have H':=aM H;clear H;go_enter Try.func96,Try.ntmps96;go_wp2;go_loopg [8] k (fun kq v8 w'=>∃(x8_1:Int),v8 = .int .i64 x8_1∧Aside0 (slices_IndexFunc_int_int_96.l0 kq l0 (l0.length:Int) x8_1=some r)∧Aside0 (kq≤k)∧Drawn0 w w');(case atStart=>exact ⟨(0),zt,H',⟨Nat.le_refl _⟩,Z18⟩)
 case round=>
  clear H';obtain ⟨x8_1,rfl,HA,HK1,⟨m1,rfl⟩⟩:=hrel;cases gk with
  | zero=>exact absurd HA.out (by simp [slices_IndexFunc_int_int_96.l0])
  | succ k1=>
   have H:=HA.out;clear HA;simp only [slices_IndexFunc_int_int_96.l0] at H;by_cases c2:x8_1<(l0.length:Int)
   ·rw [if_pos c2] at H;have c2b0:decide (x8_1<(l0.length:Int))=true:=decide_eq_true c2;clear c2;obtain ⟨c3b0,H⟩:=iN H;obtain ⟨c4b0,H⟩:=iN H;by_cases c5:(rd l0 x8_1)=0
    ·rw [if_pos c5] at H;have c5b0:((rd l0 x8_1) == 0)=true:=beq_iff_eq.mpr c5;have c5b1:((rd l0 x8_1) != 0)=false:=bne_eq_false_iff_eq.mpr c5;clear c5;have H':=aM H;clear H;have p119:0≤(x8_1:Int):=zd;have q119:x8_1<(l0.length:Int):=zd;obtain ⟨ad119,e119,hx119_0⟩:=Kd.at_int HR0.out x8_1 p119 q119;cases e119;replace p119:=eq_true p119;replace q119:=eq_true q119;go_wp2_with ((with_reducible refine gate_dst (N:=16) rfl ?_);refine slices_IndexFunc_int_int_96.goesV (some 16) rfl rfl Try.func97 (Z17) rfl #[.int .i64 (rd l0 x8_1)] rfl rfl (Z75) ?_;refine (slices_IndexFunc_int_int_96.pred (rd l0 x8_1) _).mono ?_;rintro e w_ ⟨rfl,⟨nd_,rfl⟩⟩;refine ⟨_,rfl,?_⟩);go_roundg k1;(case measure=>have:=HK1.out;omega);(case rel=>exact ⟨(wrap64 (x8_1+1)),zt,H',⟨Z60 HK1.out⟩,Z18⟩)
    ·rw [if_neg c5] at H;have c5b0:((rd l0 x8_1) == 0)=false:=beq_eq_false_iff_ne.mpr c5;have c5b1:((rd l0 x8_1) != 0)=true:=bne_iff_ne.mpr c5;obtain rfl:=Option.some.inj H;have p119:0≤(x8_1:Int):=zd;have q119:x8_1<(l0.length:Int):=zd;obtain ⟨ad119,e119,hx119_0⟩:=Kd.at_int HR0.out x8_1 p119 q119;cases e119;replace p119:=eq_true p119;replace q119:=eq_true q119;go_wp2_with ((with_reducible refine gate_dst (N:=16) rfl ?_);refine slices_IndexFunc_int_int_96.goesV (some 16) rfl rfl Try.func97 (Z17) rfl #[.int .i64 (rd l0 x8_1)] rfl rfl (Z75) ?_;refine (slices_IndexFunc_int_int_96.pred (rd l0 x8_1) _).mono ?_;rintro e w_ ⟨rfl,⟨nd_,rfl⟩⟩;refine ⟨_,rfl,?_⟩);go_ret;exact ⟨zt,zz⟩
   ·rw [if_neg c2] at H;have c2b0:decide (x8_1<(l0.length:Int))=false:=decide_eq_false c2;clear c2;obtain rfl:=Option.some.inj H;go_wp2;go_ret;exact ⟨zt,zz⟩
def impl_lead.f (k:Nat) (l0:List Int):Option (Int):=(slices_IndexFunc_int_int_96.f k l0).bind fun t120=>(some t120)
set_option maxHeartbeats 8000000 in
set_option maxRecDepth 100000 in
theorem impl_lead.calls (k : Nat) (A0 : Option Addr) (c0 : Nat) (l0 : List Int) (r : Int) (w : World) (hr0 : Kd.C (Kd.int .i64) w A0 l0.length l0) (hc0 : l0.length ≤ c0) (h : impl_lead.f k l0 = some r) :
 Calls Try.prog 59 #[.slice A0 l0.length c0] w fun e w' => e = .returned (.int .i64 r) ∧ Drawn0 w w' := by
 have HR0:=aM hr0;have HC0:=aM hc0;clear hr0 hc0;have H:((slices_IndexFunc_int_int_96.f k l0).bind fun t120=>(some t120))=some r:=h;clear h;obtain ⟨t120,A2,H⟩:=bz H;obtain rfl:=Option.some.inj H;go_enter Try.func59,Try.ntmps59;go_wp2_with (first|((with_reducible refine gate_callee (f:=96) rfl ?_);refine gm (some 4) Try.func96 #[.slice A0 l0.length c0,.func (.func 97) #[] #[]] ?_;(with_reducible refine (slices_IndexFunc_int_int_96.calls k _ _ l0 t120 _ ?side1 ?side2 A2.out).mono ?_);(case side1=>exact zc HR0.out);(case side2=>exact HC0.out);rintro e w' ⟨rfl,⟨nd,rfl⟩⟩;refine ⟨_,rfl,?_⟩));go_ret;exact ⟨zt,zz⟩
end Go.Proofs.Ytojkepidkmkmpaa.PFnSolved
end
section
namespace Go.Proofs
open Go.Shelf
def Try.del_ren:Go.Shelf.Ren:=⟨fun|45=>108|n=>n,fun|22=>22|23=>23|3=>3|4=>4|0=>0|n=>n,fun|n=>n⟩
theorem Try.del:Go.Proofs.SlLaysE.n45 Try.prog Try.del_ren:={
 mixed:=by kernel_rfl
 f45:=⟨Try.f108.name,by decide,Try.func108.trans (congrArg some (by kernel_rfl))⟩
 t0:=Try.underlying0
 a0:=Try.isAgg0
 z0:=Try.sizeOf0
 v0:=Try.zeroValue0
 t3:=Try.underlying3
 a3:=Try.isAgg3
 z3:=Try.sizeOf3
 v3:=Try.zeroValue3
 t4:=Try.underlying4
 a4:=Try.isAgg4
 z4:=Try.sizeOf4
 v4:=Try.zeroValue4
 t22:=Try.underlying22
 a22:=Try.isAgg22
 z22:=Try.sizeOf22
 v22:=Try.zeroValue22
 a23:=Try.isAgg23
 z23:=Try.sizeOf23 }
end Go.Proofs
end
section
namespace Go.Proofs
theorem Try.prog_info23:(Try.prog.info? 23).map (fun i=>i.size)=some 1:=by kernel_rfl
end Go.Proofs
namespace Go.Proofs.YtojkepidkmkmpaaRed
open Go.RowKit Go.Proofs.YtojkepidkmkmpaaW.PrintWords
def sv (n:Nat) (p:Nat × Nat):Value:=.slice (some ⟨p.1,0,none⟩) n p.2
def SK (n:Nat):Kd (Nat × Nat):=Kd.scalar (sv n) (fun _=>rfl)
def RowIs (w:World) (base n:Nat) (p:Nat × Nat) (x:List Int):Prop:=Kd.R (Kd.int .i64) 3 w base (fun k=>k=p.1) (sv n p) x
structure RowsAre (w : World) (base n : Nat) (ps : List (Nat × Nat)) (xs : List (List Int)) : Prop where
 len : ps.length = xs.length
 row : ∀ (i : Nat) (p : Nat × Nat) (x : List Int), ps[i]? = some p → xs[i]? = some x → RowIs w base n p x
def Spine (w:World) (base n:Nat) (v:Value) (ps:List (Nat × Nat)):Prop:=(SK n).R 23 w base (fun k=>some k=v.ownBlock) v ps
theorem RowIs.len {w:World} {base n:Nat} {p:Nat × Nat} {x:List Int} (h:RowIs w base n p x):x.length=n:=by
 obtain ⟨A,c,e,_⟩:=Kd.R_slice h |>.elim fun A h=>h.elim fun c h=>(⟨A,c,h,trivial⟩:∃A c,sv n p = .slice A x.length c∧True)
 unfold sv at e
 injection e with _ h2 _
 exact h2.symm
theorem RowIs.typed {w:World} {base n:Nat} {p:Nat × Nat} {x:List Int} (h:RowIs w base n p x):∃cells,w.heap[p.1]?=some (.cells cells 3 (0,0)):=Kd.R_typed h p.1 rfl
theorem RowIs.lt {w:World} {base n:Nat} {p:Nat × Nat} {x:List Int} (h:RowIs w base n p x):p.1<w.heap.size:=Kd.R_lt h p.1 rfl
theorem RowIs.base {w:World} {base n:Nat} {p:Nat × Nat} {x:List Int} (h:RowIs w base n p x):base≤p.1:=Kd.R_base h p.1 rfl
theorem RowIs.kept {w w':World} {base n:Nat} {p:Nat × Nat} {x:List Int} (h:RowIs w base n p x) {S:Nat→Prop} (hk:Kept w w' S) (hn:¬S p.1):RowIs w' base n p x:=
 Kd.R_kept h hk fun k hk=>by rw [hk];exact hn
theorem Spine.kept {w w':World} {base n:Nat} {v:Value} {ps:List (Nat × Nat)} (h:Spine w base n v ps) {S:Nat→Prop} (hk:Kept w w' S) (hn:∀k,v.ownBlock=some k→¬S k):Spine w' base n v ps:=
 Kd.R_kept h hk fun k hk=>hn k hk.symm
theorem Spine.typed {w:World} {base n:Nat} {v:Value} {ps:List (Nat × Nat)} (h:Spine w base n v ps):∀k,v.ownBlock=some k→∃cells,w.heap[k]?=some (.cells cells 23 (0,0)):=Kd.R_typed h
theorem Spine.lt {w:World} {base n:Nat} {v:Value} {ps:List (Nat × Nat)} (h:Spine w base n v ps):∀k,v.ownBlock=some k→k<w.heap.size:=Kd.R_lt h
theorem Spine.base {w:World} {base n:Nat} {v:Value} {ps:List (Nat × Nat)} (h:Spine w base n v ps):∀k,v.ownBlock=some k→base≤k:=Kd.R_base h
theorem Spine.apart {w:World} {base n:Nat} {v:Value} {ps:List (Nat × Nat)} (h:Spine w base n v ps) {p:Nat × Nat} {x:List Int} (hr:RowIs w base n p x):v.ownBlock≠some p.1:=fun e=>by
 obtain ⟨c1,h1⟩:=h.typed p.1 e
 obtain ⟨c2,h2⟩:=hr.typed
 rw [h1] at h2
 injection h2 with h2
 injection h2 with _ h2
 exact absurd h2 (by decide)
theorem Spine.form {w:World} {base n:Nat} {v:Value} {ps:List (Nat × Nat)} (h:Spine w base n v ps):∃A c,v = .slice A ps.length c∧ps.length≤c:=by
 obtain ⟨A,c,e,hl,_⟩:=Kd.R_reads h
 exact ⟨A,c,e,hl⟩
theorem Spine.at_ {w:World} {base n N:Nat} {A:Option Addr} {c:Nat} {ps:List (Nat × Nat)} (h:Spine w base n (.slice A N c) ps) (i:Int) (h0:0≤i) (h1:i<N) :
  ∃ad p,A=some ad∧ps[i.toNat]?=some p∧w.cell? (ad.add i.toNat)=some (.slice (some ⟨p.1,0,none⟩) n p.2):=by
 obtain ⟨hN,_,hC⟩:=Kd.R_reads' h
 subst hN
 obtain ⟨ad,e,hc⟩:=ReadsOf.at_ (Kd.reads_of_C (enc:=sv n) (d:=((0,0):Nat × Nat)) (h1:=fun _=>rfl) hC) i h0 h1
 have hi:i.toNat<ps.length:=by omega
 refine ⟨ad,ps[i.toNat],e,List.getElem?_eq_getElem hi,?_⟩
 rw [hc]
 unfold rdOf
 rw [List.getD_eq_getElem?_getD,List.getElem?_eq_getElem hi]
 rfl
theorem Spine.atN {w:World} {base n N:Nat} {A:Option Addr} {c:Nat} {ps:List (Nat × Nat)} (h:Spine w base n (.slice A N c) ps) (i:Nat) (h1:i<N) :
  ∃ad p,A=some ad∧ps[i]?=some p∧w.cell? (ad.add i)=some (.slice (some ⟨p.1,0,none⟩) n p.2):=by
 obtain ⟨ad,p,h⟩:=h.at_ (i:Int) (by omega) (by omega)
 rw [Int.toNat_natCast] at h
 exact ⟨ad,p,h⟩
theorem Spine.formN {w:World} {base n N:Nat} {A:Option Addr} {c:Nat} {ps:List (Nat × Nat)} (h:Spine w base n (.slice A N c) ps) (h0:0<N) :
  ∃g,A=some ⟨g,0,none⟩∧base≤g∧∀i,i<N→∃p,ps[i]?=some p∧w.cell? ⟨g,i,none⟩=some (.slice (some ⟨p.1,0,none⟩) n p.2):=by
 have hN:=(Kd.R_reads' h).1
 obtain ⟨g,cap,e,hb,_⟩:=Kd.R_form h (by omega)
 injection e with e1 _ _
 subst e1
 refine ⟨g,rfl,hb,fun i hi=>?_⟩
 obtain ⟨ad,p,e2,hp,hc⟩:=h.atN i hi
 injection e2 with e2
 subst e2
 refine ⟨p,hp,?_⟩
 rw [add_plain] at hc
 exact hc
theorem cell_new (w:World) (v:Value) (T:TypeId):(w.alloc (.cells #[v] T)).cell? ⟨w.heap.size,0,none⟩=some v:=by
 have h:=heap_alloc_new w (.cells #[v] T)
 unfold World.cell?
 simp only [h]
 rfl
theorem drawn_kept {w w':World} {o:Obj} (h:Drawn0 (w.alloc o) w') (S:Nat→Prop):Kept w w' S:=by
 obtain ⟨n,rfl⟩:=h
 exact ((Kept.refl w S).alloc o).drewN n
theorem drawn_below {w0 w w':World} {o:Obj} (h:Drawn0 (w.alloc o) w') (hb:Below w0.heap.size w0 w):Below w0.heap.size w0 w':=by
 obtain ⟨n,rfl⟩:=h
 exact pw_below_drewN (below_alloc hb o) n
theorem drawn_cell {w w':World} {a:Addr} {v:Value} (h:Drawn0 w w') (hc:w.cell? a=some v):w'.cell? a=some v:=by
 obtain ⟨n,rfl⟩:=h
 exact hc
theorem one_C {w:World} {b:Nat} {A:Option Addr} {c:Nat} {l:List Int} (h:(Kd.int .i64).C w A l.length l) (hc:l.length≤c) (hcell:w.cell? ⟨b,0,none⟩=some (.slice A l.length c)):(Kd.slice 3 (Kd.int .i64)).C w (some ⟨b,0,none⟩) [l].length [l]:=by
 refine ⟨rfl,by simp,fun _=>⟨⟨b,0,none⟩,rfl,fun j p hj=>?_⟩⟩
 cases j with
|succ j=>simp at hj
|zero=>
  simp only [List.getElem?_cons_zero,Option.some.injEq] at hj
  subst hj
  refine ⟨[.slice A l.length c],rfl,⟨A,c,rfl,hc,h⟩,fun i u hu=>?_⟩
  cases i with
 |succ i=>simp at hu
 |zero=>
   simp only [List.getElem?_cons_zero,Option.some.injEq] at hu
   subst hu
   simpa [add_plain] using hcell
def off (a b:Nat):Nat→Nat
 | 0=>0
 | 1=>a
 | _=>a+b
theorem perm_move {ps qs:List (Nat × Nat)} {i:Nat} {p:Nat × Nat} (hp:ps[i]?=some p) (h:((ps ++ qs).map (·.1)).Nodup):((ps.eraseIdx i ++ (qs ++ [p])).map (·.1)).Nodup:=by
 obtain ⟨hi,rfl⟩:=List.getElem?_eq_some_iff.1 hp
 have h1:(ps.eraseIdx i ++ (qs ++ [ps[i]])).Perm (ps ++ qs):=by
  have h2:(ps[i] :: ps.eraseIdx i).Perm ps:=by
   have e:ps=ps.take i ++ ps[i] :: ps.drop (i+1):=by rw [← List.drop_eq_getElem_cons hi,List.take_append_drop]
   have h4:=(List.perm_middle (a:=ps[i]) (l₁:=ps.take i) (l₂:=ps.drop (i+1))).symm
   rw [← e] at h4
   rw [List.eraseIdx_eq_take_drop_succ]
   exact h4
  have h3:(ps.eraseIdx i ++ (qs ++ [ps[i]])).Perm (ps[i] :: (ps.eraseIdx i ++ qs)):=by
   rw [← List.append_assoc]
   exact List.perm_append_singleton _ _
  exact h3.trans ((List.Perm.append_right qs h2))
 exact ((h1.map (·.1)).nodup_iff).2 h
theorem nodup_erase {ps qs:List (Nat × Nat)} {i:Nat} {p:Nat × Nat} (hp:ps[i]?=some p) (h:((ps ++ qs).map (·.1)).Nodup):((ps.eraseIdx i ++ qs).map (·.1)).Nodup∧∀q∈ps.eraseIdx i ++ qs,q.1≠p.1:=by
 have h1:=perm_move hp h
 rw [← List.append_assoc,List.map_append] at h1
 have h2:=List.nodup_append.1 h1
 refine ⟨h2.1,fun q hq=>?_⟩
 exact h2.2.2 _ (List.mem_map_of_mem hq) _ (by simp)
theorem Spine.nil (w:World) (base n:Nat):Spine w base n (.slice none 0 0) []:=Kd.R_nil _ _ _ _ _
theorem RowsAre.nil (w:World) (base n:Nat):RowsAre w base n [] []:=⟨rfl,fun i p x h=>by simp at h⟩
theorem RowsAre.kept {w w':World} {base n:Nat} {ps:List (Nat × Nat)} {xs:List (List Int)} (h:RowsAre w base n ps xs) {S:Nat→Prop} (hk:Kept w w' S) (hn:∀p∈ps,¬S p.1):RowsAre w' base n ps xs:=
 ⟨h.len,fun i p x hp hx=>(h.row i p x hp hx).kept hk (hn p (List.mem_of_getElem? hp))⟩
theorem RowsAre.get {w:World} {base n:Nat} {ps:List (Nat × Nat)} {xs:List (List Int)} (h:RowsAre w base n ps xs) {i:Nat} {p:Nat × Nat} (hp:ps[i]?=some p):∃x,xs[i]?=some x∧RowIs w base n p x:=by
 have hi:i<xs.length:=by rw [← h.len];exact (List.getElem?_eq_some_iff.1 hp).1
 exact ⟨xs[i],List.getElem?_eq_getElem hi,h.row i p _ hp (List.getElem?_eq_getElem hi)⟩
theorem RowsAre.mem {w:World} {base n:Nat} {ps:List (Nat × Nat)} {xs:List (List Int)} (h:RowsAre w base n ps xs) {p:Nat × Nat} (hp:p∈ps):∃x,RowIs w base n p x:=by
 obtain ⟨i,hi⟩:=List.getElem?_of_mem hp
 obtain ⟨x,_,hx⟩:=h.get hi
 exact ⟨x,hx⟩
theorem RowsAre.append {w:World} {base n:Nat} {ps qs:List (Nat × Nat)} {xs ys:List (List Int)} (h:RowsAre w base n ps xs) (k:RowsAre w base n qs ys):RowsAre w base n (ps ++ qs) (xs ++ ys):=by
 refine ⟨by rw [List.length_append,List.length_append,h.len,k.len],fun i p x hp hx=>?_⟩
 rcases Nat.lt_or_ge i ps.length with hi|hi
 ·rw [List.getElem?_append_left hi] at hp
  rw [List.getElem?_append_left (by rw [← h.len];exact hi)] at hx
  exact h.row i p x hp hx
 ·rw [List.getElem?_append_right hi] at hp
  rw [List.getElem?_append_right (by rw [← h.len];exact hi),← h.len] at hx
  exact k.row _ p x hp hx
theorem RowsAre.left {w:World} {base n:Nat} {ps qs:List (Nat × Nat)} {xs ys:List (List Int)} (h:RowsAre w base n (ps ++ qs) (xs ++ ys)) (hl:ps.length=xs.length):RowsAre w base n ps xs:=
 ⟨hl,fun i p x hp hx=>h.row i p x (by rw [List.getElem?_append_left (List.getElem?_eq_some_iff.1 hp).1];exact hp) (by rw [List.getElem?_append_left (List.getElem?_eq_some_iff.1 hx).1];exact hx)⟩
theorem RowsAre.right {w:World} {base n:Nat} {ps qs:List (Nat × Nat)} {xs ys:List (List Int)} (h:RowsAre w base n (ps ++ qs) (xs ++ ys)) (hl:ps.length=xs.length):RowsAre w base n qs ys:=by
 have h2:=h.len
 rw [List.length_append,List.length_append] at h2
 refine ⟨by omega,fun i p x hp hx=>h.row (ps.length+i) p x ?_ ?_⟩
 ·rw [List.getElem?_append_right (by omega),Nat.add_sub_cancel_left];exact hp
 ·rw [List.getElem?_append_right (by omega),hl,Nat.add_sub_cancel_left];exact hx
theorem RowsAre.erase {w:World} {base n:Nat} {ps:List (Nat × Nat)} {xs:List (List Int)} (h:RowsAre w base n ps xs) (j:Nat):RowsAre w base n (ps.eraseIdx j) (xs.eraseIdx j):=by
 refine ⟨by rw [List.length_eraseIdx,List.length_eraseIdx,h.len],fun i p x hp hx=>?_⟩
 rw [List.getElem?_eraseIdx] at hp hx
 split at hp
 ·rename_i hi;rw [if_pos hi] at hx;exact h.row _ p x hp hx
 ·rename_i hi;rw [if_neg hi] at hx;exact h.row _ p x hp hx
def mix (xs ys:List (List Int)) (m:Nat):List (List Int):=ys.take m ++ xs.drop m
theorem mix_zero (xs ys:List (List Int)):mix xs ys 0=xs:=by simp [mix]
theorem mix_all (xs ys:List (List Int)) (h:xs.length=ys.length):mix xs ys xs.length=ys:=by
 unfold mix
 rw [List.drop_length,List.append_nil,h,List.take_length]
theorem mix_len (xs ys:List (List Int)) (m:Nat) (h:xs.length=ys.length):(mix xs ys m).length=xs.length:=by
 simp only [mix,List.length_append,List.length_take,List.length_drop]
 omega
theorem mix_get (xs ys:List (List Int)) (m i:Nat) (h:xs.length=ys.length):(mix xs ys m)[i]?=if i<m then ys[i]? else xs[i]?:=by
 unfold mix
 by_cases hi:i<m
 ·rw [if_pos hi]
  by_cases h2:i<ys.length
  ·rw [List.getElem?_append_left (by rw [List.length_take];omega),List.getElem?_take,if_pos hi]
  ·rw [List.getElem?_append_right (by rw [List.length_take];omega),List.getElem?_eq_none (l:=ys) (by omega),List.getElem?_eq_none]
   rw [List.length_drop,List.length_take]
   omega
 ·rw [if_neg hi]
  by_cases h2:i<ys.length
  ·rw [List.getElem?_append_right (by rw [List.length_take];omega),List.length_take,List.getElem?_drop]
   congr 1
   omega
  ·rw [List.getElem?_append_right (by rw [List.length_take];omega),List.length_take,List.getElem?_drop,List.getElem?_eq_none (by omega),List.getElem?_eq_none (by omega)]
theorem RowsAre.step {w w':World} {base n:Nat} {ps:List (Nat × Nat)} {xs ys:List (List Int)} (hxy:xs.length=ys.length) {m:Nat} (h:RowsAre w base n ps (mix xs ys m)) (hn:(ps.map (·.1)).Nodup) {p:Nat × Nat} {y:List Int}
  (hp:ps[m]?=some p) (hy:ys[m]?=some y) (hk:Kept w w' (fun k=>k=p.1)) (hr:RowIs w' base n p y):RowsAre w' base n ps (mix xs ys (m+1)):=by
 have hl:=h.len
 rw [mix_len _ _ _ hxy] at hl
 refine ⟨by rw [mix_len _ _ _ hxy];exact hl,fun i q x hq hx=>?_⟩
 rw [mix_get _ _ _ _ hxy] at hx
 by_cases e:i=m
 ·subst e
  rw [if_pos (by omega),hy] at hx
  rw [hp] at hq
  cases hq;cases hx
  exact hr
 ·refine (h.row i q x hq ?_).kept hk fun e2=>e ?_
  ·rw [mix_get _ _ _ _ hxy]
   by_cases hi:i<m
   ·rw [if_pos hi];rw [if_pos (by omega)] at hx;exact hx
   ·rw [if_neg hi];rw [if_neg (by omega)] at hx;exact hx
  ·have h1:(ps.map (·.1))[i]?=some q.1:=by rw [List.getElem?_map,hq];rfl
   have h2:(ps.map (·.1))[m]?=some p.1:=by rw [List.getElem?_map,hp];rfl
   have hi:=(List.getElem?_eq_some_iff.1 h1).1
   have hm:=(List.getElem?_eq_some_iff.1 h2).1
   exact (List.getElem_inj (h₀:=hi) (h₁:=hm) hn).1 (by rw [(List.getElem?_eq_some_iff.1 h1).2,(List.getElem?_eq_some_iff.1 h2).2];exact e2)
theorem list_of {α:Type} (P:Nat→α→Prop):∀N,(∀j,j<N→∃p,P j p)→∃l:List α,l.length=N∧∀j p,l[j]?=some p→P j p
|0,_=>⟨[],rfl,fun j p h=>by simp at h⟩
|N+1,h=>by
  obtain ⟨l,hl,hP⟩:=list_of P N fun j hj=>h j (by omega)
  obtain ⟨p,hp⟩:=h N (by omega)
  refine ⟨l ++ [p],by simp [hl],fun j q hq=>?_⟩
  rcases Nat.lt_or_ge j l.length with hj|hj
  ·rw [List.getElem?_append_left hj] at hq;exact hP j q hq
  ·rw [List.getElem?_append_right hj] at hq
   have hjN:j-l.length<1:=by
    have:=(List.getElem?_eq_some_iff.1 hq).1
    simpa using this
   have:j=N:=by omega
   subst this
   rw [hl,Nat.sub_self] at hq
   simp at hq
   rw [← hq];exact hp
theorem of_S {w:World} {base n:Nat} {ok:Nat→Prop} {v:Value} {m:List (List Int)} (h:Kd.S (Kd.slice 3 (Kd.int .i64)) 23 w base ok v m) (hn:0<n) (hm:∀x∈m,x.length=n) :
  ∃ps,Spine w base n v ps∧RowsAre w base n ps m∧(ps.map (·.1)).Nodup:=by
 obtain ⟨f,h0,inner,ho,hr⟩:=h
 rw [List.length_zipIdx] at ho
 have key:∀j,j<m.length→∃p:Nat × Nat,inner[j]?=some (sv n p)∧f p.1=j∧∀x,m[j]?=some x→RowIs w base n p x:=by
  intro j hj
  have hx:=List.getElem?_eq_getElem hj
  have hz:m.zipIdx[j]?=some (m[j],j):=Kd.zip_at hx
  obtain ⟨v',e,hR⟩:=hr.2 j (m[j],j) hz
  have hlen:m[j].length=n:=hm _ (List.getElem_mem hj)
  obtain ⟨g,cap,hv,_⟩:=Kd.R_form hR (by show 0<m[j].length;omega)
  have hv':v'=sv n (g,cap):=by rw [hv];show Value.slice _ m[j].length _=_;rw [hlen];rfl
  refine ⟨(g,cap),?_,?_,fun x hx'=>?_⟩
  ·have h1:((inner.drop (j*1)).take 1)[0]?=some v':=by
    have:(inner.drop (j*(Kd.tag f (Kd.slice 3 (Kd.int .i64))).sz)).take (Kd.tag f (Kd.slice 3 (Kd.int .i64))).sz=[v']:=e
    show ((inner.drop (j*(Kd.tag f (Kd.slice 3 (Kd.int .i64))).sz)).take (Kd.tag f (Kd.slice 3 (Kd.int .i64))).sz)[0]?=some v'
    rw [this];rfl
   rw [List.getElem?_take,if_pos (by omega),List.getElem?_drop,Nat.mul_one,Nat.add_zero] at h1
   rw [h1,hv']
  ·exact (hR.1 g (by rw [hv];rfl)).2
  ·rw [hx] at hx'
   cases hx'
   rw [hv'] at hR
   exact Kd.R_mono (Kd.R_tight rfl hR) fun k hk=>by
    have:some k=some g:=hk
    exact Option.some.inj this
 obtain ⟨ps,hl,hP⟩:=list_of _ _ key
 refine ⟨ps,?_,⟨hl,fun i p x hp hx=>(hP i p hp).2.2 x hx⟩,?_⟩
 ·have hin:inner=encs (sv n) ps:=by
   apply List.ext_getElem?
   intro j
   unfold encs
   rw [List.getElem?_map]
   rcases Nat.lt_or_ge j ps.length with hj|hj
   ·rw [List.getElem?_eq_getElem hj,(hP j _ (List.getElem?_eq_getElem hj)).1]
    rfl
   ·rw [List.getElem?_eq_none hj,List.getElem?_eq_none]
    ·rfl
    ·have h1:inner.length=m.length*1:=ho.1
     omega
  rw [← hl,hin] at ho
  exact Kd.R_of_own (enc:=sv n) (h1:=fun _=>rfl) ho fun k hk=>hk.symm
 ·rw [List.nodup_iff_pairwise_ne]
  refine List.pairwise_iff_getElem.2 fun i j hi hj hij e=>?_
  rw [List.getElem_map,List.getElem_map] at e
  have hi':i<ps.length:=by simpa using hi
  have hj':j<ps.length:=by simpa using hj
  have h1:=(hP i _ (List.getElem?_eq_getElem hi')).2.1
  have h2:=(hP j _ (List.getElem?_eq_getElem hj')).2.1
  rw [e] at h1
  omega
theorem to_S {w:World} {base n:Nat} {v:Value} {ps:List (Nat × Nat)} {m:List (List Int)} (h:Spine w base n v ps) (hr:RowsAre w base n ps m) (hn:(ps.map (·.1)).Nodup):Kd.S (Kd.slice 3 (Kd.int .i64)) 23 w base (fun _=>True) v m:=by
 have ho:=Kd.own_of_R h
 refine ⟨fun k=>(ps.map (·.1)).idxOf k,fun _ _=>trivial,encs (sv n) ps,?_,?_,?_⟩
 ·rw [List.length_zipIdx,← hr.len];exact ho
 ·rw [List.length_zipIdx]
  show (encs (sv n) ps).length=m.length*1
  simp [encs,hr.len]
 ·rintro j ⟨x,i⟩ hx
  have hj:j<m.length:=by
   have:=(List.getElem?_eq_some_iff.1 hx).1
   rwa [List.length_zipIdx] at this
  have hx2:m.zipIdx[j]?=some (m[j],j):=Kd.zip_at (List.getElem?_eq_getElem hj)
  rw [hx2] at hx
  cases hx
  have hjp:j<ps.length:=by rw [hr.len];exact hj
  have hrow:=hr.row j _ _ (List.getElem?_eq_getElem hjp) (List.getElem?_eq_getElem hj)
  refine ⟨sv n ps[j],?_,?_⟩
  ·show (List.drop (j*1) (encs (sv n) ps)).take 1=[sv n ps[j]]
   rw [Nat.mul_one]
   unfold encs
   rw [List.drop_eq_getElem_cons (by simpa using hjp)]
   simp
  ·refine Kd.R_mono hrow fun k hk=>⟨⟨trivial,fun e=>?_⟩,?_⟩
   ·have hk':k=ps[j].1:=hk
    rw [hk'] at e
    exact h.apart hrow e.symm
   ·have hk':k=ps[j].1:=hk
    have:(ps.map (·.1))[j]'(by simpa using hjp)=k:=by rw [List.getElem_map];exact hk'.symm
    rw [← this]
    exact List.Nodup.idxOf_getElem hn j (by simpa using hjp)
theorem to_C {w:World} {base n N:Nat} {A:Option Addr} {c:Nat} {ps:List (Nat × Nat)} {m:List (List Int)} (h:Spine w base n (.slice A N c) ps) (hr:RowsAre w base n ps m) (hn:(ps.map (·.1)).Nodup):Kd.C (Kd.slice 3 (Kd.int .i64)) w A m.length m:=
 (Kd.R_reads' (Kd.S_R (to_S h hr hn))).2.2
theorem index_left (A B:Option Addr) (n m c d:Nat) (w:World):(Instr.index 98 (.agg #[.slice A n c,.slice B m d]) (.int .i64 0)).run Try.prog w = .ok (.slice A n c) w:=by
 simp [Instr.index,run_underlying Try.underlying98,asIntOf,go_sem,Try.sizeOf22]
theorem index_right (A B:Option Addr) (n m c d:Nat) (w:World):(Instr.index 98 (.agg #[.slice A n c,.slice B m d]) (.int .i64 1)).run Try.prog w = .ok (.slice B m d) w:=by
 simp [Instr.index,run_underlying Try.underlying98,asIntOf,go_sem,Try.sizeOf22]
theorem delete_one (base n g cap i:Nat) (ps:List (Nat × Nat)) (N:Nat) (w:World) (h:Spine w base n (.slice (some ⟨g,0,none⟩) N cap) ps) (hi:i<ps.length) :
  Calls Try.prog 108 #[.slice (some ⟨g,0,none⟩) N cap,.int .i64 (i:Int),.int .i64 ((i:Int)+1)] w fun e w'=>e = .returned (.slice (some ⟨g,0,none⟩) (ps.eraseIdx i).length cap)∧
   Spine w' base n (.slice (some ⟨g,0,none⟩) (ps.eraseIdx i).length cap) (ps.eraseIdx i)∧Kept w w' (fun k=>k=g)∧∀w0:World,Below w0.heap.size w0 w→w0.heap.size≤g→Below w0.heap.size w0 w':=by
 have hle:(ps.eraseIdx i).length=ps.length-1:=by rw [List.length_eraseIdx,if_pos hi]
 rw [hle]
 have ho:=Kd.own_of_R h
 have hN:N=ps.length:=(Kd.R_reads' h).1
 subst hN
 obtain ⟨zr,hzr⟩:∃zr:Option Addr × Nat × Nat,zr=(none,0,0):=⟨_,rfl⟩
 let enc:Option Addr × Nat × Nat→Value:=fun x=>.slice x.1 x.2.1 x.2.2
 let zs:List (Option Addr × Nat × Nat):=ps.map fun p=>(some ⟨p.1,0,none⟩,n,p.2)
 have hzs:zs.map enc=encs (sv n) ps:=by
  simp only [zs,enc,encs,List.map_map]
  rfl
 have hlz:zs.length=ps.length:=by simp [zs]
 have ho2:w.ownsRow base 23 1 (.slice (some ⟨g,0,none⟩) ps.length cap) ps.length (zs.map enc):=by rw [hzs];exact ho
 obtain ⟨g',cap',e,_,_,hcap,hmax,_,hH⟩:=Go.Lib.holds_of_ownsRow (α:=Option Addr × Nat × Nat) ho2 (by simp)
 injection e with e1 _ e3
 injection e1 with e1
 injection e1 with e1
 subst e1;subst e3
 have hinfo:=Try.prog_info23
 obtain ⟨i0,hi0,hz1⟩:∃i0,Try.prog.info? 23=some i0∧i0.size=1:=by
  cases hq:Try.prog.info? 23 with
 |none=>rw [hq] at hinfo;cases hinfo
 |some i0=>rw [hq] at hinfo;exact ⟨i0,rfl,by simpa using hinfo⟩
 have hc:=AnyE.slices_Delete Try.del enc (fun _=>rfl) (none,0,0) Try.zeroValue23 i0 hi0 hz1 g 0 cap i (i+1) zs.toArray w hH (by simpa [hlz] using hcap) (by simp only [maxLen] at hmax;omega) (by omega) (by simp [hlz];omega)
 simp only [List.size_toArray,hlz] at hc
 refine Calls.mono hc fun e w' ⟨he,q,hw⟩=>?_
 subst hw
 have hy:zs.take i ++ zs.drop (i+1) ++ List.replicate (i+1-i) (none,0,0)=zs.eraseIdx i ++ [(none,0,0)]:=by
  rw [List.eraseIdx_eq_take_drop_succ,show i+1-i=1 by omega]
  rfl
 have hyl:(zs.eraseIdx i ++ [(none,0,0)]).length=ps.length:=by
  rw [List.length_append,List.length_eraseIdx,if_pos (by omega),hlz]
  simp
  omega
 refine ⟨by rw [he,show i+1-i=1 by omega],?_,?_,?_⟩
 ·have h2:=Go.Lib.ownsRow_putRow (q:=q) (k:=ps.length-1) ho2 hyl (by omega)
  have h3:((zs.eraseIdx i ++ [((none:Option Addr),0,0)]).take (ps.length-1)).map enc=encs (sv n) (ps.eraseIdx i):=by
   have hl2:(zs.eraseIdx i).length=ps.length-1:=by rw [List.length_eraseIdx,if_pos (by omega),hlz]
   rw [← hl2,List.take_left]
   unfold encs
   have h5:zs.map enc=ps.map (sv n):=hzs
   rw [List.eraseIdx_eq_take_drop_succ,List.eraseIdx_eq_take_drop_succ,List.map_append,List.map_append,List.map_take,List.map_drop,List.map_take,List.map_drop,h5]
  rw [h3] at h2
  have hl3:(ps.eraseIdx i).length=ps.length-1:=by rw [List.length_eraseIdx,if_pos hi]
  rw [← hy] at h2
  have h4:=Kd.R_of_own (enc:=sv n) (h1:=fun _=>rfl) (ok:=fun k=>some k=(Value.slice (some ⟨g,0,none⟩) (ps.length-1) cap).ownBlock) (xs:=ps.eraseIdx i) (by rw [hl3];exact h2) (fun k hk=>hk.symm)
  exact h4
 ·refine ⟨by simp [Go.Sort.putRow,Go.Sort.mapBlock,Go.Sort.ahead],fun k hk hne=>?_⟩
  simp [Go.Sort.putRow,Go.Sort.mapBlock,Go.Sort.ahead,Array.getElem?_modify,show g≠k from fun e=>hne e.symm]
 ·intro w0 hb hg
  exact Go.Lib.below_putRow hb hg
end Go.Proofs.YtojkepidkmkmpaaRed
end
section
namespace Go.Proofs.Ytojkepidkmkmpaa.PFnSolved
open Go.Proofs.YtojkepidkmkmpaaW.PrintWords.Aside0 renaming mk → aM
open List renaming setIfInBounds_toArray → aQ, set_cons_zero → zQ, set_cons_succ → sQ
open Bool renaming true → tt, false → ff
open Option renaming bind_eq_some_iff → bE

open Go.RowKit Go.Proofs.YtojkepidkmkmpaaW.PrintWords Go.Proofs.YtojkepidkmkmpaaW.PrintLast Go.Proofs.YtojkepidkmkmpaaW.PrintMore
attribute [local go_sem] max2_int min2_int max_two min_two max_three min_three max_four min_four
set_option linter.unusedVariables false
set_option linter.unusedSimpArgs false
mutual
def impl_gcd.j0 : Nat → Int → Int → Option (Int)
 | 0, _, _ => none
 | k + 1, x0, x1 => if x1 < 0 then (impl_gcd.j1 k x0 (wrap64 (-x1))) else (impl_gcd.j1 k x0 x1)
def impl_gcd.j1 : Nat → Int → Int → Option (Int)
 | 0, _, _ => none
 | k + 1, x0, x1 => impl_gcd.l0 k x0 x1
def impl_gcd.l0 : Nat → Int → Int → Option (Int)
 | 0, _, _ => none
 | k + 1, x0, x1 => if x1 = 0 then (some x0) else (impl_gcd.l0 k x1 (Int.tmod x0 x1))
end
def impl_gcd.f (k:Nat) (a0:Int) (a1:Int):Option (Int):=if a0<0 then (impl_gcd.j0 k (wrap64 (-a0)) a1) else (impl_gcd.j0 k a0 a1)
set_option maxHeartbeats 8000000 in
set_option maxRecDepth 100000 in
theorem impl_gcd.calls (k : Nat) (a0 : Int) (a1 : Int) (r : Int) (w : World) (h : impl_gcd.f k a0 a1 = some r) :
 Calls Try.prog 60 #[.int .i64 a0, .int .i64 a1] w fun e w' => e = .returned (.int .i64 r) ∧ Drawn0 w w' := by
 have H:(if a0<0 then (impl_gcd.j0 k (wrap64 (-a0)) a1) else (impl_gcd.j0 k a0 a1))=some r:=h;clear h;have HC3:=aM H;clear H;go_enter Try.func60,Try.ntmps60;go_upto_if 6 with (fail)
 (repeat (go_quiet (fail);go_upto_if 6 with (fail)));go_cut [0] (fun v0 wc=>∃(kq:Nat) (x0_2:Int),v0 = .int .i64 x0_2∧Aside0 (impl_gcd.j0 kq x0_2 a1=some r)∧Aside0 (kq≤k)∧Drawn0 w wc)
 case first=>
  have H:=HC3.out;clear HC3;by_cases c4:a0<0
  ·rw [if_pos c4] at H;have c4b0:decide (a0<0)=true:=decide_eq_true c4;clear c4;(first|rw [c4b0]|(simp only [i64_w,i32_w];rw [c4b0])|skip);have H':=aM H;clear H;go_wp2;(repeat (go_quiet (fail);try go_wp2));go_meet;(case rel=>exact ⟨_,(wrap64 (-a0)),zt,H',⟨Z40⟩,Z18⟩)
  ·rw [if_neg c4] at H;have c4b0:decide (a0<0)=false:=decide_eq_false c4;clear c4;(first|rw [c4b0]|(simp only [i64_w,i32_w];rw [c4b0])|skip);have H':=aM H;clear H;go_wp2;(repeat (go_quiet (fail);try go_wp2));go_meet;(case rel=>exact ⟨_,(a0),zt,H',⟨Z40⟩,Z18⟩)
 case rest=>
  clear HC3;(try clear c4);(try clear c4b0);obtain ⟨kq,x0_2,rfl,HA,HJ2,⟨mc2,rfl⟩⟩:=hcut;cases kq with
  | zero=>exact absurd HA.out (by simp [impl_gcd.j0])
  | succ kj2=>
   have H:=HA.out;clear HA;simp only [impl_gcd.j0] at H;have HC5:=aM H;clear H;go_upto_if 10 with (fail)
   (repeat (go_quiet (fail);go_upto_if 10 with (fail)));go_cut [1] (fun v1 wc=>∃(kq:Nat) (x1_4:Int),v1 = .int .i64 x1_4∧Aside0 (impl_gcd.j1 kq x0_2 x1_4=some r)∧Aside0 (kq≤kj2)∧Drawn0 w wc)
   case first=>
    have H:=HC5.out;clear HC5;by_cases c6:a1<0
    ·rw [if_pos c6] at H;have c6b0:decide (a1<0)=true:=decide_eq_true c6;clear c6;(first|rw [c6b0]|(simp only [i64_w,i32_w];rw [c6b0])|skip);have H':=aM H;clear H;go_wp2;(repeat (go_quiet (fail);try go_wp2));go_meet;(case rel=>exact ⟨_,(wrap64 (-a1)),zt,H',⟨Z59 HJ2.out⟩,Z18⟩)
    ·rw [if_neg c6] at H;have c6b0:decide (a1<0)=false:=decide_eq_false c6;clear c6;(first|rw [c6b0]|(simp only [i64_w,i32_w];rw [c6b0])|skip);have H':=aM H;clear H;go_wp2;(repeat (go_quiet (fail);try go_wp2));go_meet;(case rel=>exact ⟨_,(a1),zt,H',⟨Z59 HJ2.out⟩,Z18⟩)
   case rest=>
    clear HC5;(try clear c4);(try clear c4b0);(try clear c6);(try clear c6b0);obtain ⟨kq,x1_4,rfl,HA,HJ4,⟨mc4,rfl⟩⟩:=hcut;cases kq with
    | zero=>exact absurd HA.out (by simp [impl_gcd.j1])
    | succ kj4=>
     have H:=HA.out;clear HA;simp only [impl_gcd.j1] at H;have H':=aM H;clear H;go_wp2;(repeat (go_quiet (fail);try go_wp2));go_loopg [0,1] kj4 (fun kq v0 v1 w'=>∃(x0_3:Int) (x1_3:Int),v0 = .int .i64 x0_3∧v1 = .int .i64 x1_3∧Aside0 (impl_gcd.l0 kq x0_3 x1_3=some r)∧Aside0 (kq≤kj4)∧Drawn0 w w');(case atStart=>exact ⟨(x0_2),(x1_4),zt,zt,H',⟨Nat.le_refl _⟩,Z18⟩)
     case round=>
      clear H';(try clear c4);(try clear c4b0);(try clear c6);(try clear c6b0);obtain ⟨x0_3,x1_3,rfl,rfl,HA,HK3,⟨m3,rfl⟩⟩:=hrel;cases gk with
      | zero=>exact absurd HA.out (by simp [impl_gcd.l0])
      | succ k3=>
       have H:=HA.out;clear HA;simp only [impl_gcd.l0] at H;by_cases c7:x1_3=0
       ·rw [if_pos c7] at H;have c7b0:(x1_3 == 0)=true:=beq_iff_eq.mpr c7;have c7b1:(x1_3 != 0)=false:=bne_eq_false_iff_eq.mpr c7;clear c7;obtain rfl:=Option.some.inj H;go_wp2;(repeat (go_quiet (fail);try go_wp2));go_ret;exact ⟨zt,zz⟩
       ·rw [if_neg c7] at H;have c7b0:(x1_3 == 0)=false:=beq_eq_false_iff_ne.mpr c7;have c7b1:(x1_3 != 0)=true:=bne_iff_ne.mpr c7;have H':=aM H;clear H;go_wp2;(repeat (go_quiet (fail);try go_wp2));go_roundg k3;(case measure=>have:=HJ2.out;have:=HJ4.out;have:=HK3.out;omega);(case rel=>exact ⟨(x1_3),(Int.tmod x0_3 x1_3),zt,zt,H',⟨Z82 HJ2.out HJ4.out HK3.out⟩,Z18⟩)
mutual
def impl_tidy.l0 : Nat → List Int → Int → List Int → Int → Int → Option (List Int)
 | 0, _, _, _, _, _ => none
 | k + 1, x0, x2, x6, x7, x8 => if x8 < x7 then (if 0 ≤ x8 then (if x8 < (x6.length : Int) then ((impl_gcd.f k x2 (rd x6 x8)).bind fun t122 => (impl_tidy.l0 k x0 t122 x6 x7 (wrap64 (x8 + 1)))) else (none)) else (none)) else (if x2 = 0 then (some x0) else ((impl_lead.f k x0).bind fun t123 => (if 0 ≤ t123 then (if t123 < (x0.length : Int) then (if (rd x0 t123) < 0 then (impl_tidy.j1 k x0 (wrap64 (-x2))) else (impl_tidy.j1 k x0 x2)) else (none)) else (none))))
def impl_tidy.j1 : Nat → List Int → Int → Option (List Int)
 | 0, _, _ => none
 | k + 1, x0, x2 => impl_tidy.l1 k x0 x2 (x0.length : Int) 0
def impl_tidy.l1 : Nat → List Int → Int → Int → Int → Option (List Int)
 | 0, _, _, _, _ => none
 | k + 1, x0, x2, x27, x28 => if x28 < x27 then (if 0 ≤ x28 then (if x28 < (x0.length : Int) then (if x2 = 0 then (none) else (impl_tidy.l1 k (x0.set (x28 : Int).toNat (wrap64 (Int.tdiv (rd x0 x28) x2))) x2 x27 (wrap64 (x28 + 1)))) else (none)) else (none)) else (some x0)
end
def impl_tidy.f (k:Nat) (l0:List Int):Option (List Int):=impl_tidy.l0 k l0 0 l0 (l0.length:Int) 0
set_option maxHeartbeats 8000000 in
set_option maxRecDepth 100000 in
theorem impl_tidy.calls (k : Nat) (P0_ : Nat → Prop) (u9000_ : Value) (l0 : List Int) (r : List Int) (w0 w : World) (hB : Below w0.heap.size w0 w) (ho0 : Kd.R (Kd.int .i64) 3 w w0.heap.size P0_ u9000_ l0) (h : impl_tidy.f k l0 = some r) :
 Calls Try.prog 105 #[u9000_] w fun e w' => e = .returned (.tuple #[]) ∧ Kd.R (Kd.int .i64) 3 w' w0.heap.size (fun k_ => (P0_ k_ ∨ w.heap.size ≤ k_)) u9000_ r ∧ Below w0.heap.size w0 w' ∧ Kept w w' (fun k_ => P0_ k_) := by
 have HO0:=aM (show Kd.R (Kd.int .i64) 3 w w0.heap.size (fun k_=>(P0_ k_∨w.heap.size≤k_)) u9000_ l0 from Kd.R_mono ho0 (fun k_ hk=>(.inl hk)));have HK:=aM (Kept.refl w (fun k_=>P0_ k_));have HW0:=aM hB.size;have HB:=aM hB;clear hB;have H:(impl_tidy.l0 k l0 0 l0 (l0.length:Int) 0)=some r:=h;clear h;have H':=aM H;clear H;obtain ⟨Ao2,co2,eo2⟩:=Kd.R_slice HO0.out;subst eo2;go_enter Try.func105,Try.ntmps105;go_wp2;go_loopg [2,8] k (fun kq v2 v8 w'=>∃(x2_1:Int) (x8_1:Int),v2 = .int .i64 x2_1∧v8 = .int .i64 x8_1∧Aside0 (impl_tidy.l0 kq l0 x2_1 l0 (l0.length:Int) x8_1=some r)∧Aside0 (kq≤k)∧Aside0 (Kd.R (Kd.int .i64) 3 w' w0.heap.size (fun k_=>(P0_ k_∨w.heap.size≤k_)) (.slice Ao2 l0.length co2) l0)∧Aside0 (Kd.R (Kd.int .i64) 3 w' w0.heap.size (fun k_=>(P0_ k_∨w.heap.size≤k_)) (.slice Ao2 l0.length co2) l0)∧Aside0 (Kept w w' (fun k_=>P0_ k_))∧Aside0 (Below w0.heap.size w0 w'));(case atStart=>exact ⟨(0),(0),zt,zt,H',⟨Nat.le_refl _⟩,⟨zr HO0.out⟩,⟨zr HO0.out⟩,⟨zp HK.out⟩,⟨zb HB.out⟩⟩)
 case round=>
  clear H';obtain ⟨x2_1,x8_1,rfl,rfl,HA,HK1,HO_0,HO_6,HK,HB⟩:=hrel;cases gk with
  | zero=>exact absurd HA.out (by simp [impl_tidy.l0])
  | succ k1=>
   have H:=HA.out;clear HA;simp only [impl_tidy.l0] at H;by_cases c3:x8_1<(l0.length:Int)
   ·rw [if_pos c3] at H;have c3b0:decide (x8_1<(l0.length:Int))=true:=decide_eq_true c3;clear c3;obtain ⟨c4b0,H⟩:=iN H;obtain ⟨c5b0,H⟩:=iN H;obtain ⟨t122,A6,H⟩:=bz H;have H':=aM H;clear H;have p121:0≤(x8_1:Int):=zd;have q121:x8_1<(l0.length:Int):=zd;obtain ⟨ad121,e121,hx121_0⟩:=Kd.at_int (Kd.R_reads' HO_6.out).2.2 x8_1 p121 q121;cases e121;replace p121:=eq_true p121;replace q121:=eq_true q121;go_wp2_with (first|((with_reducible refine gate_callee (f:=60) rfl ?_);refine gm (some 14) Try.func60 #[.int .i64 x2_1,.int .i64 (rd l0 x8_1)] ?_;(with_reducible refine (impl_gcd.calls k1 x2_1 (rd l0 x8_1) t122 _ A6.out).mono ?_);rintro e w' ⟨rfl,⟨nd,rfl⟩⟩;refine ⟨_,rfl,?_⟩));go_roundg k1;(case measure=>have:=HK1.out;omega);(case rel=>exact ⟨(t122),(wrap64 (x8_1+1)),zt,zt,H',⟨Z60 HK1.out⟩,⟨zr HO_0.out⟩,⟨zr HO_6.out⟩,⟨zp HK.out⟩,⟨zb HB.out⟩⟩)
   ·rw [if_neg c3] at H;have c3b0:decide (x8_1<(l0.length:Int))=false:=decide_eq_false c3;clear c3;by_cases c7:x2_1=0
    ·rw [if_pos c7] at H;have c7b0:(x2_1 == 0)=true:=beq_iff_eq.mpr c7;have c7b1:(x2_1 != 0)=false:=bne_eq_false_iff_eq.mpr c7;clear c7;obtain rfl:=Option.some.inj H;go_wp2;(first|go_end0|((try simp only [Exit.inBlock,Exit.then]);refine bodyPost_ret (results_none rfl _ _ _) rfl ?_));exact ⟨Z7,zr HO_0.out,zb HB.out,zp HK.out⟩
    ·rw [if_neg c7] at H;have c7b0:(x2_1 == 0)=false:=beq_eq_false_iff_ne.mpr c7;have c7b1:(x2_1 != 0)=true:=bne_iff_ne.mpr c7;obtain ⟨t123,A8,H⟩:=bz H;obtain ⟨c9b0,H⟩:=iN H;obtain ⟨c10b0,H⟩:=iN H;have HC11:=aM H;clear H;go_upto_if 23 with (first|((with_reducible refine gate_callee (f:=59) rfl ?_);refine gm (some 20) Try.func59 #[.slice Ao2 l0.length co2] ?_;(with_reducible refine (impl_lead.calls k1 _ _ l0 t123 _ ?side1 ?side2 A8.out).mono ?_);(case side1=>exact zc (Kd.R_reads' HO_0.out).2.2);(case side2=>exact (Kd.R_reads' HO_0.out).2.1);rintro e w' ⟨rfl,⟨nd,rfl⟩⟩;refine ⟨_,rfl,?_⟩;have p124:0≤(t123:Int):=zd;have q124:t123<(l0.length:Int):=zd;obtain ⟨ad124,e124,hx124_0⟩:=Kd.at_int (Kd.R_reads' HO_0.out).2.2 t123 p124 q124;cases e124;replace p124:=eq_true p124;replace q124:=eq_true q124))
     (try simp only [Act.put,aQ,zQ,sQ]);go_cut [2] (fun v2 wc=>∃(kq:Nat) (x2_10:Int),v2 = .int .i64 x2_10∧Aside0 (impl_tidy.j1 kq l0 x2_10=some r)∧Aside0 (kq≤k1)∧Aside0 (Kd.R (Kd.int .i64) 3 wc w0.heap.size (fun k_=>(P0_ k_∨w.heap.size≤k_)) (.slice (some ad124) l0.length co2) l0)∧Aside0 (Kept w wc (fun k_=>P0_ k_))∧Aside0 (Below w0.heap.size w0 wc))
     case first=>
      have H:=HC11.out;clear HC11;by_cases c12:(rd l0 t123)<0
      ·rw [if_pos c12] at H;have c12b0:decide ((rd l0 t123)<0)=true:=decide_eq_true c12;clear c12;(first|rw [c12b0]|(simp only [i64_w,i32_w];rw [c12b0])|skip);have H':=aM H;clear H;go_wp2;go_meet;(case rel=>exact ⟨_,(wrap64 (-x2_1)),zt,H',⟨Z59 HK1.out⟩,⟨zr HO_0.out⟩,⟨zp HK.out⟩,⟨zb HB.out⟩⟩)
      ·rw [if_neg c12] at H;have c12b0:decide ((rd l0 t123)<0)=false:=decide_eq_false c12;clear c12;(first|rw [c12b0]|(simp only [i64_w,i32_w];rw [c12b0])|skip);have H':=aM H;clear H;go_wp2;go_meet;(case rel=>exact ⟨_,(x2_1),zt,H',⟨Z59 HK1.out⟩,⟨zr HO_0.out⟩,⟨zp HK.out⟩,⟨zb HB.out⟩⟩)
     case rest=>
      clear HC11;(try clear c3);(try clear c3b0);(try clear c4b0);(try clear c5b0);(try clear c7);(try clear c7b0);(try clear c7b1);(try clear c9b0);(try clear c10b0);(try clear c12);(try clear c12b0);(try clear hx121_0);(try clear hx124_0);(try clear p121);(try clear p124);(try clear q121);(try clear q124);obtain ⟨kq,x2_10,rfl,HA,HJ10,HO_0,HK,HB⟩:=hcut;cases kq with
      | zero=>exact absurd HA.out (by simp [impl_tidy.j1])
      | succ kj10=>
       have H:=HA.out;clear HA;simp only [impl_tidy.j1] at H;have H':=aM H;clear H;go_wp2;go_loopg [28] kj10 (fun kq v28 w'=>∃(x0_3:List Int) (x28_3:Int),v28 = .int .i64 x28_3∧Aside0 (impl_tidy.l1 kq x0_3 x2_10 (l0.length:Int) x28_3=some r)∧Aside0 (kq≤kj10)∧Aside0 (Kd.R (Kd.int .i64) 3 w' w0.heap.size (fun k_=>(P0_ k_∨w.heap.size≤k_)) (.slice (some ad124) l0.length co2) x0_3)∧Aside0 (Kept w w' (fun k_=>P0_ k_))∧Aside0 (Below w0.heap.size w0 w'));(case atStart=>exact ⟨(l0),(0),zt,H',⟨Nat.le_refl _⟩,⟨zr HO_0.out⟩,⟨zp HK.out⟩,⟨zb HB.out⟩⟩)
       case round=>
        clear H';(try clear c3);(try clear c3b0);(try clear c4b0);(try clear c5b0);(try clear c7);(try clear c7b0);(try clear c7b1);(try clear c9b0);(try clear c10b0);(try clear c12);(try clear c12b0);(try clear hx121_0);(try clear hx124_0);(try clear p121);(try clear p124);(try clear q121);(try clear q124);obtain ⟨x0_3,x28_3,rfl,HA,HK3,HO_0,HK,HB⟩:=hrel;have hl0_3:=(Kd.R_reads' HO_0.out).1;rw [hl0_3] at HO_0;(try simp only [hl0_3]);cases gk with
        | zero=>exact absurd HA.out (by simp [impl_tidy.l1])
        | succ k3=>
         have H:=HA.out;clear HA;simp only [impl_tidy.l1] at H;by_cases c13:x28_3<(l0.length:Int)
         ·rw [if_pos c13] at H;have c13b0:decide (x28_3<(l0.length:Int))=true:=decide_eq_true c13;clear c13;obtain ⟨c14b0,H⟩:=iN H;obtain ⟨c15b0,H⟩:=iN H;by_cases c16:x2_10=0
          ·rw [if_pos c16] at H;exact absurd H (Z81)
          ·rw [if_neg c16] at H;have c16b0:(x2_10 == 0)=false:=beq_eq_false_iff_ne.mpr c16;have c16b1:(x2_10 != 0)=true:=bne_iff_ne.mpr c16;obtain ⟨y126,hy126⟩:∃y_:List Int,y_=(x0_3.set (x28_3:Int).toNat (wrap64 (Int.tdiv (rd x0_3 x28_3) x2_10))):=⟨_,rfl⟩;replace H:(impl_tidy.l1 k3 y126 x2_10 (l0.length:Int) (wrap64 (x28_3+1)))=some r:=(Z2 hy126);have Ny126:=aM hy126;clear hy126;have H':=aM H;clear H;have p125:0≤(x28_3:Int):=zd;have q125:x28_3<(x0_3.length:Int):=zd;obtain ⟨ad125,e125,hx125_0⟩:=Kd.at_int (Kd.R_reads' HO_0.out).2.2 x28_3 p125 q125;obtain rfl:ad124=ad125:=(by injection e125);replace p125:=eq_true p125;replace q125:=eq_true q125;have p17:0≤(x28_3:Int):=zd;have q17:(x28_3:Int)<((x0_3.length:Int):Int):=zd;obtain ⟨go17,co17,eo17,gb17,gl17,cl17,HG17⟩:=Kd.R_form HO_0.out (Z47);(first|cases eo17|(injection eo17 with ea_ en_ ec_;(first|subst ea_|(injection ea_ with ea_;subst ea_));subst ec_;clear en_));have GB17:=aM gb17;have GG17:=aM HG17;clear gb17 gl17 HG17;have HMgo17:=aM (show (P0_ go17∨w.heap.size≤go17) from (HO_0.out.1 _ rfl));(first|simp only [add_plain] at hx124_0|skip);(first|simp only [add_plain] at hx125_0|skip);obtain ⟨hx17_0,hf17_0⟩:=Kd.R_celln 0 HO_0.out (x28_3:Int) p17 q17;replace p17:=eq_true p17;replace q17:=eq_true q17;have HP18:=Kd.R_putg HO_0.out (x28_3:Int) (wrap64 (Int.tdiv (rd x0_3 x28_3) x2_10));go_wp2_with (first|((with_reducible refine gate_store (t:=3) (p:=37) rfl ?_);refine store_event (t:=3) (p:=37) (v:=?vo_w19) (w1:=(wr.setCell ⟨go17,(x28_3:Int).toNat,none⟩ (.int .i64 (wrap64 (Int.tdiv (rd x0_3 x28_3) x2_10))))) ?hg ?ho ?hn ?hr ?_;(case ho=>rfl);(case hg=>rfl);(case hn=>rfl);(case hr=>exact (Z9));intro w19 hw;have hg:wr.grownBy w19 (some go17):=(by rw [hw];exact HP18.2);have hp_:Kd.R (Kd.int .i64) 3 w19 w0.heap.size (fun k_=>(P0_ k_∨w.heap.size≤k_)) (.slice (some ⟨go17,0,none⟩) x0_3.length co2) y126:=(by rw [hw,Ny126.out];exact HP18.1);clear HP18;replace HB:=aM ((by rw [hw];exact below_set (HB.out) GB17.out:Below w0.heap.size w0 w19));replace HK:=aM (Kept.of_grown (S:=(fun k_=>P0_ k_)) hg (zp HK.out) (fun k_ e_=>(HO_0.out.1 k_ e_)));replace HO_0:=aM (hp_);clear hg hw hp_));(try simp only [← hl0_3]);go_roundg k3;(case measure=>have:=HK1.out;have:=HJ10.out;have:=HK3.out;omega);(case rel=>exact ⟨(y126),(wrap64 (x28_3+1)),zt,H',⟨Z82 HK1.out HJ10.out HK3.out⟩,⟨Z35 hl0_3 HO_0.out⟩,⟨zp HK.out⟩,⟨zb HB.out⟩⟩)
         ·rw [if_neg c13] at H;have c13b0:decide (x28_3<(l0.length:Int))=false:=decide_eq_false c13;(try (have c13b1:decide (x28_3<(x0_3.length:Int))=false:=by have h5_:=hl0_3;rw [show (x0_3.length:Int)=(l0.length:Int) by omega];exact c13b0));clear c13;obtain rfl:=Option.some.inj H;go_wp2;(first|go_end0|((try simp only [Exit.inBlock,Exit.then]);refine bodyPost_ret (results_none rfl _ _ _) rfl ?_));exact ⟨Z7,(by first|exact (zr HO_0.out)|(simp only [hl0_3];exact (zr HO_0.out))),zb HB.out,zp HK.out⟩
theorem slices_IndexFunc_int_int_106.goesV {P : Program} {ops : Array Oper} {Q : Exit → Act → World → Prop} {rest : List Oper} {oi : Oper} {a : Act} {w : World} (N : Option Tmp) (hd : oi.dst = N) (hg : oi.guard = none) {f : FuncId} {fn : Func} {x : Operand} {asx : Array Operand} {ts : Array TypeId} {lb : Array Value} (hf : P.funcs[f]? = some fn) (hname : (fn.name == "runtime.NumGoroutine") = false) (hb : fn.body.isSome = true) (args : Array Value)
  (hop : oi.op = .call { callee := .value x, args := asx, argTypes := ts }) (hx : a.eval x = .func (.func f) #[] lb) (hargs : asx.map a.eval ++ lb = args)
  (h : Calls P f args w fun e w' => ∃ v, e = .returned v ∧ wpList P ops Q rest (a.put N v) w') : wpList P ops Q (oi :: rest) a w := by
 refine wpList_plain hg fun K hK => ?_
 have he := enters_ hf hname hb args w
 have hx' : a.eval x = .func (.func f) #[] lb := hx
 have hargs' : asx.map a.eval ++ lb = args := hargs
 have hrun : (execOp a.eval oi).run P w = .ok (.enter f args) w := by
  unfold execOp
  simp [hop, resolve, Deferred.ofValue, invoke, hx', hargs', he]
 unfold Oper.wp
 rw [hrun, Oper.upon_enter]
 refine h.mono fun e w'' hh => ?_
 obtain ⟨v, rfl, hk⟩ := hh
 subst hd
 exact hK _ _ hk
theorem slices_IndexFunc_int_int_106.pred (k:Nat) (A:Option Addr) (c:Nat) (l:List Int) (t x:Int) (B:Nat) (w:World) (hr:Kd.C (Kd.int .i64) w A l.length l) (hc:l.length≤c) (hB:w.cell? ⟨B,0,none⟩=some (.int .i64 x)) (h:impl_lead.f k l=some t) :
  Calls Try.prog 107 #[.slice A l.length c,.pointer (some ⟨B,0,none⟩)] w fun e w'=>e = .returned (.bool (t == x))∧Drawn0 w w':=by
 have HR:=Aside0.mk hr
 have HC:=Aside0.mk hc
 have HH:=Aside0.mk h
 clear hr hc h
 go_enter Try.func107,Try.ntmps107
 go_wp2
 go_quiet ((go_at_call 59;(with_reducible refine (impl_lead.calls k _ _ l t _ ?side1 ?side2 HH.out).mono ?_);(case side1=>repeat (first|exact HR.out|(with_reducible refine Kd.C_drewN ?_ _)|(with_reducible refine Kd.C_drew ?_)));(case side2=>exact HC.out);rintro e w' ⟨rfl,⟨nd,rfl⟩⟩;(first|exact ⟨rfl,_,World.drewN_drewN _ _ _⟩|exact ⟨rfl,_,Eq.trans (World.drewN_drewN _ _ _) (congrArg (World.drewN _) (Nat.add_assoc _ _ _))⟩)))
 go_wp2
 go_ret
 exact ⟨by first|rfl|(simp;done)|(simp [*];done),by repeat (first|exact Drawn0.refl _|apply Drawn0.step)⟩
def slices_IndexFunc_int_int_106.l0:Nat→List (List Int)→Int→Int→Int→Option (Int)
 | 0,_,_,_,_=>none
 | k+1,x0,x1,x7,x8=>if x8<x7 then (if 0≤x8 then (if x8<(x0.length:Int) then ((impl_lead.f k (rd_L1 x0 x8)).bind fun t148=>(if t148=x1 then (some x8) else (slices_IndexFunc_int_int_106.l0 k x0 x1 x7 (wrap64 (x8+1))))) else (none)) else (none)) else (some (-1))
def slices_IndexFunc_int_int_106.f (k:Nat) (l0:List (List Int)) (a1:Int):Option (Int):=slices_IndexFunc_int_int_106.l0 k l0 a1 (l0.length:Int) 0
set_option maxHeartbeats 8000000 in
set_option maxRecDepth 100000 in
theorem slices_IndexFunc_int_int_106.calls (k : Nat) (A0 : Option Addr) (c0 : Nat) (l0 : List (List Int)) (a1 : Int) (r : Int) (B_ : Nat) (w : World) (hB_ : w.cell? ⟨B_, 0, none⟩ = some (.int .i64 a1)) (hr0 : Kd.C (Kd.slice 3 (Kd.int .i64)) w A0 l0.length l0) (hc0 : l0.length ≤ c0) (h : slices_IndexFunc_int_int_106.f k l0 a1 = some r) :
 Calls Try.prog 106 #[.slice A0 l0.length c0, .func (.func 107) #[] #[.pointer (some ⟨B_, 0, none⟩)]] w fun e w' => e = .returned (.int .i64 r) ∧ Drawn0 w w' := by
 have HB_:=aM hB_;clear hB_;have HR0:=aM hr0;have HC0:=aM hc0;clear hr0 hc0;have H:(slices_IndexFunc_int_int_106.l0 k l0 a1 (l0.length:Int) 0)=some r:=h;clear h;have H':=aM H;clear H;go_enter Try.func106,Try.ntmps106;go_wp2;go_loopg [8] k (fun kq v8 w'=>∃(x8_1:Int),v8 = .int .i64 x8_1∧Aside0 (slices_IndexFunc_int_int_106.l0 kq l0 a1 (l0.length:Int) x8_1=some r)∧Aside0 (kq≤k)∧Drawn0 w w');(case atStart=>exact ⟨(0),zt,H',⟨Nat.le_refl _⟩,Z18⟩)
 case round=>
  clear H';obtain ⟨x8_1,rfl,HA,HK1,⟨m1,rfl⟩⟩:=hrel;cases gk with
  | zero=>exact absurd HA.out (by simp [slices_IndexFunc_int_int_106.l0])
  | succ k1=>
   have H:=HA.out;clear HA;simp only [slices_IndexFunc_int_int_106.l0] at H;by_cases c3:x8_1<(l0.length:Int)
   ·rw [if_pos c3] at H;have c3b0:decide (x8_1<(l0.length:Int))=true:=decide_eq_true c3;clear c3;obtain ⟨c4b0,H⟩:=iN H;obtain ⟨c5b0,H⟩:=iN H;obtain ⟨t148,A6,H⟩:=bz H;by_cases c7:t148=a1
    ·rw [if_pos c7] at H;have c7b0:(t148 == a1)=true:=beq_iff_eq.mpr c7;have c7b1:(t148 != a1)=false:=bne_eq_false_iff_eq.mpr c7;clear c7;obtain rfl:=Option.some.inj H;have p147:0≤(x8_1:Int):=zd;have q147:x8_1<(l0.length:Int):=zd;obtain ⟨ad147,A147_0,c147_0,e147,hx147_0,hl147_0,hi147_0⟩:=at_L1 HR0.out x8_1 p147 q147;cases e147;have HR147_0:=aM hi147_0;have HC147_0:=aM hl147_0;clear hi147_0 hl147_0;replace p147:=eq_true p147;replace q147:=eq_true q147;go_wp2_with ((with_reducible refine gate_dst (N:=16) rfl ?_);refine slices_IndexFunc_int_int_106.goesV (some 16) rfl rfl Try.func107 (Z17) rfl #[.slice A147_0 (rd_L1 l0 x8_1).length c147_0,.pointer (some ⟨B_,0,none⟩)] rfl rfl (Z75) ?_;refine (slices_IndexFunc_int_int_106.pred k1 _ _ (rd_L1 l0 x8_1) t148 a1 B_ _ ?side1 ?side2 ?side3 A6.out).mono ?_;(case side1=>exact zc HR147_0.out);(case side2=>exact HC147_0.out);(case side3=>exact HB_.out);rintro e w_ ⟨rfl,⟨nd_,rfl⟩⟩;refine ⟨_,rfl,?_⟩);go_ret;exact ⟨zt,zz⟩
    ·rw [if_neg c7] at H;have c7b0:(t148 == a1)=false:=beq_eq_false_iff_ne.mpr c7;have c7b1:(t148 != a1)=true:=bne_iff_ne.mpr c7;have H':=aM H;clear H;have p147:0≤(x8_1:Int):=zd;have q147:x8_1<(l0.length:Int):=zd;obtain ⟨ad147,A147_0,c147_0,e147,hx147_0,hl147_0,hi147_0⟩:=at_L1 HR0.out x8_1 p147 q147;cases e147;have HR147_0:=aM hi147_0;have HC147_0:=aM hl147_0;clear hi147_0 hl147_0;replace p147:=eq_true p147;replace q147:=eq_true q147;go_wp2_with ((with_reducible refine gate_dst (N:=16) rfl ?_);refine slices_IndexFunc_int_int_106.goesV (some 16) rfl rfl Try.func107 (Z17) rfl #[.slice A147_0 (rd_L1 l0 x8_1).length c147_0,.pointer (some ⟨B_,0,none⟩)] rfl rfl (Z75) ?_;refine (slices_IndexFunc_int_int_106.pred k1 _ _ (rd_L1 l0 x8_1) t148 a1 B_ _ ?side1 ?side2 ?side3 A6.out).mono ?_;(case side1=>exact zc HR147_0.out);(case side2=>exact HC147_0.out);(case side3=>exact HB_.out);rintro e w_ ⟨rfl,⟨nd_,rfl⟩⟩;refine ⟨_,rfl,?_⟩);go_roundg k1;(case measure=>have:=HK1.out;omega);(case rel=>exact ⟨(wrap64 (x8_1+1)),zt,H',⟨Z60 HK1.out⟩,Z18⟩)
   ·rw [if_neg c3] at H;have c3b0:decide (x8_1<(l0.length:Int))=false:=decide_eq_false c3;clear c3;obtain rfl:=Option.some.inj H;go_wp2;go_ret;exact ⟨zt,zz⟩
def impl_reduceAny.l0:Nat→Int→List Int→List Int→Int→Int→Int→Option (List Int)
 | 0,_,_,_,_,_,_=>none
 | k+1,x9,x11,x15,x16,x66,x67=>if x67<x66 then (if 0≤x67 then (if x67<(x15.length:Int) then (if 0≤x9 then (if x9<(x11.length:Int) then (if x67<(x11.length:Int) then (impl_reduceAny.l0 k x9 x11 (x15.set (x67:Int).toNat (wrap64 ((wrap64 ((rd x15 x67)*(rd x11 x9)))-(wrap64 ((rd x11 x67)*x16))))) x16 x66 (wrap64 (x67+1))) else (none)) else (none)) else (none)) else (none)) else (none)) else ((impl_tidy.f k x15).bind fun t154=>(some t154))
def impl_reduceAny.T26:Bool × List (List Nat × List Nat):=(true,[([],[]),([],[]),([],[]),([],[]),([2,3],[2,3]),([4],[4]),([],[]),([],[]),([6,7],[6,7]),([8],[8]),([5,9],[5,9]),([],[]),([],[]),([11,12],[11,12]),([13],[13]),([],[]),([14,15],[14,15]),([10,16],[10,16]),([0,1,0,1,2,3,4,5,6,7,8,9,10,11,12,13,14,15,16,17],[0,1]),([18,17,0,1,2,3,4,5,6,7,8,9,10,11,12,13,14,15,16,17],[17,18])])
def impl_reduceAny.B26:List Nat:=[0,0,0,0,12,28,0,0,192,448,1020,0,0,6144,14336,0,63488,131068,262143,524287]
theorem impl_reduceAny.tab26:rtab .any (opsOf Try.f77 26)=impl_reduceAny.T26:=by kernel_rfl
theorem impl_reduceAny.bits26:waitsOk impl_reduceAny.T26.2 impl_reduceAny.B26=true:=by kernel_rfl
def impl_reduceAny.mapO (f:List Int→Option (List Int)):List (List Int)→Option (List (List Int))
 | []=>some []
 | x :: l=>(f x).bind fun y=>(impl_reduceAny.mapO f l).bind fun m=>some (y :: m)
theorem impl_reduceAny.mapO_some (f:List Int→Option (List Int)):∀(l m:List (List Int)),impl_reduceAny.mapO f l=some m→l.length=m.length∧∀(i:Nat) (x:List Int),l[i]?=some x→∃y,m[i]?=some y∧f x=some y
|[],m,h=>by
  obtain rfl:=Option.some.inj h
  exact ⟨rfl,fun i x hx=>by simp at hx⟩
|x :: l,m,h=>by
  unfold impl_reduceAny.mapO at h
  obtain ⟨y,hy,h⟩:=Option.bind_eq_some_iff.1 h
  obtain ⟨m',hm,h⟩:=Option.bind_eq_some_iff.1 h
  obtain rfl:=Option.some.inj h
  obtain ⟨h1,h2⟩:=impl_reduceAny.mapO_some f l m' hm
  refine ⟨by simp [h1],fun i z hz=>?_⟩
  cases i with
 |zero=>
   simp only [List.getElem?_cons_zero] at hz
   cases hz
   exact ⟨y,by simp,hy⟩
 |succ i=>
   simp only [List.getElem?_cons_succ] at hz ⊢
   exact h2 i z hz
theorem impl_reduceAny.mapO_append (f:List Int→Option (List Int)):∀(l m l' m':List (List Int)),impl_reduceAny.mapO f l=some m→impl_reduceAny.mapO f l'=some m'→impl_reduceAny.mapO f (l ++ l')=some (m ++ m')
 | [],m,l',m',h,h'=>by
  obtain rfl:=Option.some.inj h
  exact h'
 | x :: l,m,l',m',h,h'=>by
  unfold impl_reduceAny.mapO at h
  obtain ⟨y,hy,h⟩:=Option.bind_eq_some_iff.1 h
  obtain ⟨m1,hm,h⟩:=Option.bind_eq_some_iff.1 h
  obtain rfl:=Option.some.inj h
  show impl_reduceAny.mapO f (x :: (l ++ l'))=_
  unfold impl_reduceAny.mapO
  rw [hy,impl_reduceAny.mapO_append f l m1 l' m' hm h']
  rfl
def impl_reduceAny.row (k:Nat) (a9:Int) (l11 l15:List Int):Option (List Int):=if 0≤a9 then (if a9<(l15.length:Int) then (if (rd l15 a9)=0 then (some l15) else (impl_reduceAny.l0 k a9 l11 l15 (rd l15 a9) (l15.length:Int) 0)) else (none)) else (none)
def impl_reduceAny.lp (k:Nat):Nat→Nat→List (List Int)→List (List Int)→Option (List (List Int))
 | 0,_,_,Y=>some Y
 | d+1,c,X,Y=>(slices_IndexFunc_int_int_106.f k X (c:Int)).bind fun i=>if i<0 then impl_reduceAny.lp k d (c+1) X Y else if i<(X.length:Int) then (impl_reduceAny.mapO (impl_reduceAny.row k (c:Int) (X.getD i.toNat [])) (X.eraseIdx i.toNat)).bind fun X'=>(impl_reduceAny.mapO (impl_reduceAny.row k (c:Int) (X.getD i.toNat [])) Y).bind fun Y'=>impl_reduceAny.lp k d (c+1) X' (Y' ++ [X.getD i.toNat []]) else none
def impl_reduceAny.f (k:Nat) (l0:List (List Int)) (a1:Int):Option (List (List Int)):=(impl_copyRows.f k l0).bind fun m=>if 1≤a1∧a1≤1000000∧m.length≤1000000∧(∀x∈m,(x.length:Int)=a1) then (impl_reduceAny.mapO (impl_tidy.f k) m).bind fun X=>impl_reduceAny.lp k a1.toNat 0 X [] else none
theorem impl_reduceAny.open_ {k:Nat} {l0:List (List Int)} {a1:Int} {r:List (List Int)} (h:impl_reduceAny.f k l0 a1=some r) :
  ∃(n:Nat) (m X:List (List Int)),a1=(n:Int)∧0<n∧n≤1000000∧impl_copyRows.f k l0=some m∧(∀x∈m,x.length=n)∧m.length≤1000000∧impl_reduceAny.mapO (impl_tidy.f k) m=some X∧impl_reduceAny.lp k n 0 X []=some r:=by
 unfold impl_reduceAny.f at h
 obtain ⟨m,hm,h⟩:=Option.bind_eq_some_iff.1 h
 split at h
 ·rename_i hc
  obtain ⟨X,hX,h⟩:=Option.bind_eq_some_iff.1 h
  exact ⟨a1.toNat,m,X,by omega,by omega,by omega,hm,fun x hx=>by have:=hc.2.2.2 x hx;omega,hc.2.2.1,hX,h⟩
 ·cases h
open YtojkepidkmkmpaaRed in
def impl_reduceAny.Inv (k n : Nat) (r : List (List Int)) (w w' : World) (c : Nat) (vR vO : Value) : Prop :=
 ∃ ps qs X Y, impl_reduceAny.lp k (n - c) c X Y = some r ∧ Spine w' w.heap.size n vR ps ∧ Spine w' w.heap.size n vO qs ∧ RowsAre w' w.heap.size n (ps ++ qs) (X ++ Y) ∧ ps.length = X.length ∧ ((ps ++ qs).map (·.1)).Nodup ∧ (∀ k, vR.ownBlock = some k → vO.ownBlock ≠ some k) ∧ ps.length ≤ 1000000 ∧ qs.length ≤ c ∧ Below w.heap.size w w'
open YtojkepidkmkmpaaRed in
set_option maxHeartbeats 8000000 in
set_option maxRecDepth 100000 in
theorem impl_reduceAny.calls (k : Nat) (A0 : Option Addr) (c0 : Nat) (l0 : List (List Int)) (a1 : Int) (r : List (List Int)) (w : World) (hr0 : Kd.C (Kd.slice 3 (Kd.int .i64)) w A0 l0.length l0) (hc0 : l0.length ≤ c0) (h : impl_reduceAny.f k l0 a1 = some r) :
 Calls Try.prog 77 #[.slice A0 l0.length c0, .int .i64 a1] w fun e w' => ∃ v0_ : Value, e = .returned (v0_) ∧ Kd.S (Kd.slice 3 (Kd.int .i64)) 23 w' w.heap.size (fun _ => True) v0_ r ∧ Below w.heap.size w w' := by
 have HR0:=aM hr0;have HC0:=aM hc0;clear hr0 hc0;have HB:=aM (Below.refl w.heap.size w);obtain ⟨n,m,X1,rfl,hn0,hn1,hcp,hmn,hml,hm,hL⟩:=impl_reduceAny.open_ h;clear h;have ACP:=aM hcp;have HN:=aM (And.intro hn0 hn1);have HMN:=aM (And.intro hmn hml);have HM:=aM (impl_reduceAny.mapO_some _ _ _ hm);have HL:=aM hL;clear hcp hmn hm hL hn0 hn1 hml;go_enter Try.func77,Try.ntmps77;go_wp2_with (first|((with_reducible refine gate_callee (f:=104) rfl ?_);refine gm (some 19) Try.func104 #[.slice A0 l0.length c0] ?_;(with_reducible refine (impl_copyRows.calls k _ _ l0 m _ ?side1 ?side2 ACP.out).mono ?_);(case side1=>exact zc HR0.out);(case side2=>exact HC0.out);rintro e w4 ⟨v150,rfl,ho0,hb⟩;obtain ⟨ps0,hsp,hra,hnd⟩:=of_S ho0 HN.out.1 HMN.out.1;obtain ⟨A1,c1,e1,hle⟩:=hsp.form;subst e1;refine ⟨_,rfl,?_⟩;have HSP:=aM hsp;have HRA:=aM hra;have HND:=aM hnd;have HLE:=aM hle;clear HB;have HB:=aM hb;clear ho0 hsp hra hnd hb hle));have HRA0:=HRA;go_loopg [22] (ps0.length+1) (fun kq v22 w'=>∃i:Nat,v22 = .int .i64 (i:Int)∧Aside0 (i≤ps0.length∧kq+i=ps0.length+1)∧Aside0 (RowsAre w' w.heap.size n ps0 (mix m X1 i))∧Aside0 (Kept w4 w' (fun k_=>∃p∈ps0,k_=p.1))∧Aside0 (Below w.heap.size w w'));(case atStart=>exact ⟨0,by first|rfl|(simp;done),⟨Z47,Z47⟩,⟨by rw [mix_zero];exact HRA.out⟩,⟨Kept.refl _ _⟩,HB⟩)
 case round=>
  clear HRA HB;obtain ⟨i,rfl,HI,HRA,HK,HB⟩:=hrel;by_cases hi:i<ps0.length
  ·have hi2:i<1000000:=(by have:=HRA0.out.len;have:=HMN.out.2;omega)
   have HSPr:=aM (HSP.out.kept HK.out (fun k_ hk_ ⟨p_,hp_,e_⟩=>by
     obtain ⟨x_,hx_⟩:=(RowsAre.kept HRA0.out (Kept.refl w4 (fun _=>False)) (fun _ _ h=>h)).mem hp_
     exact HSP.out.apart hx_ (by rw [hk_,e_])))
   obtain ⟨ad,p,eA,hp,hcell⟩:=HSPr.out.atN i hi;subst eA;obtain ⟨x,hx,hrow⟩:=HRA.out.get hp
   have hxm:m[i]?=some x:=by
    rw [mix_get _ _ _ _ HM.out.1,if_neg (Z47)] at hx;exact hx
   obtain ⟨y,hy,hf⟩:=HM.out.2 i x hxm;have AT:=aM hf;have HY:=aM hy;have HP:=aM hp;have HROW:=aM hrow;clear hx hxm hy hf hp hrow;go_wp2_with (first|((with_reducible refine gate_callee (f:=105) rfl ?_);refine gm (some 27) Try.func105 #[.slice (some ⟨p.1,0,none⟩) n p.2] ?_;(with_reducible refine (impl_tidy.calls k (fun k_=>k_=p.1) (.slice (some ⟨p.1,0,none⟩) n p.2) x y w _ ?side1 ?side2 AT.out).mono ?_);(case side1=>exact HB.out);(case side2=>exact HROW.out);rintro e w32 ⟨rfl,hy0,hb,hkp⟩;refine ⟨_,rfl,?_⟩;have HR2:=aM (RowsAre.step HM.out.1 HRA.out HND.out HP.out HY.out hkp (Kd.R_reok rfl hy0 (fun k_ e_=>(Option.some.inj e_).symm)));have HK2:=aM (Kept.then_ HK.out hkp (fun k_ hs_=>Or.inl ⟨p,List.mem_of_getElem? HP.out,hs_⟩));have HB2:=aM hb;clear hy0 hb hkp));go_roundg (ps0.length-i);(case measure=>have:=HI.out;omega);(case rel=>exact ⟨i+1,Z67,⟨Z47,Z47⟩,HR2,HK2,HB2⟩)
  ·have HSPr:=aM (HSP.out.kept HK.out (fun k_ hk_ ⟨p_,hp_,e_⟩=>by
     obtain ⟨x_,hx_⟩:=(RowsAre.kept HRA0.out (Kept.refl w4 (fun _=>False)) (fun _ _ h=>h)).mem hp_
     exact HSP.out.apart hx_ (by rw [hk_,e_])))
   have HINV:Aside0 (impl_reduceAny.Inv k n r w wr 0 (.slice A1 ps0.length c1) (.slice none 0 0)):=⟨ps0,[],X1,[],HL.out,HSPr.out,Spine.nil _ _ _,by
     have h1:=HRA.out
     have h2:i=m.length:=by have:=HI.out;have:=HRA0.out.len;omega
     rw [h2,mix_all _ _ HM.out.1] at h1
     simpa using h1,by have:=HRA0.out.len;have:=HM.out.1;omega,by simpa using HND.out,by simp [Value.ownBlock],by have:=HRA0.out.len;have:=HMN.out.2;omega,Z81,HB.out⟩
   have HN1:=HN.out.1;have HN2:=HN.out.2;go_wp2;clear HSPr HRA HK HB HI HRA0 HSP HND HLE HMN HM HL ACP HR0 HC0 hi;go_loopg [5,8,30] (n+1) (fun kq v5 v8 v30 w'=>∃c:Nat,v30 = .int .i64 (c:Int)∧Aside0 (c≤n∧kq+c=n+1)∧Aside0 (impl_reduceAny.Inv k n r w w' c v5 v8));(case atStart=>exact ⟨0,by first|rfl|(simp;done),⟨Z47,Z47⟩,HINV⟩)
   case round=>
    clear HINV;obtain ⟨c,rfl,HC,HINV⟩:=hrel;obtain ⟨ps,qs,X,Y,hlp,hsp,hso,hra,hlen,hnd,hvv,hps,hqs,hb⟩:=HINV.out;clear HINV;obtain ⟨A5,c5,e5,hl5⟩:=hsp.form;subst e5;obtain ⟨A8,c8,e8,hl8⟩:=hso.form;subst e8;have HSP:=aM hsp;have HSO:=aM hso;have HRA:=aM hra;have HLEN:=aM hlen;have HND:=aM hnd;have HVV:=aM hvv;have HB:=aM hb;have HCAP:=aM (And.intro hl5 hl8);clear hsp hso hra hlen hnd hvv hb hl5 hl8;by_cases hc:c<n
    ·obtain ⟨d,hd⟩:∃d,n-c=d+1:=⟨n-c-1,Z47⟩;rw [hd] at hlp;unfold impl_reduceAny.lp at hlp;obtain ⟨t,ht,hlp⟩:=bE.1 hlp;have AT:=aM ht;have HD:=aM hd;clear ht hd;have hc2:c<1000000:=(Z47);have HXC:=aM (to_C HSP.out (HRA.out.left HLEN.out) (by have h:=HND.out;rw [List.map_append] at h;exact (List.nodup_append.1 h).1))
     have H106:Aside0 (Calls Try.prog 106 #[.slice A5 ps.length c5,.func (.func 107) #[] #[.pointer (some ⟨wr.heap.size,0,none⟩)]] (wr.alloc (.cells #[.int .i64 (c:Int)] 3)) fun e w'=>e = .returned (.int .i64 t)∧Drawn0 (wr.alloc (.cells #[.int .i64 (c:Int)] 3)) w'):=⟨by
       have hcap:=HCAP.out.1
       rw [HLEN.out] at hcap ⊢
       exact slices_IndexFunc_int_int_106.calls k _ _ X (c:Int) t wr.heap.size _ (cell_new _ _ _) (Kd.C_alloc HXC.out _) hcap AT.out⟩
     by_cases htn:t<0
     ·rw [if_pos htn] at hlp;have HL:=aM hlp;clear hlp;have c1b0:decide (t<0)=true:=decide_eq_true htn;go_wp2_with fail;refine (H106.out).mono ?_;rintro e W2 ⟨rfl,hdr⟩;have HK2:=aM (drawn_kept hdr (fun _=>False));have HB2:=aM (drawn_below hdr HB.out);clear hdr;go_wp2;go_roundg (n-c);(case measure=>have:=HC.out;omega)
      case rel=>
       refine ⟨c+1,Z67,⟨Z47,Z47⟩,⟨ps,qs,X,Y,?_,HSP.out.kept HK2.out (fun _ _ h=>h),HSO.out.kept HK2.out (fun _ _ h=>h),HRA.out.kept HK2.out (fun _ _ h=>h),HLEN.out,HND.out,HVV.out,hps,Z47,HB2.out⟩⟩;have:=HD.out;rw [show n-(c+1)=d by omega];exact HL.out
     ·rw [if_neg htn] at hlp;by_cases htx:t<(X.length:Int)
      ·rw [if_pos htx] at hlp;obtain ⟨ix,rfl⟩:∃ix:Nat,t=(ix:Int):=⟨t.toNat,Z47⟩;rw [Int.toNat_natCast] at hlp;obtain ⟨X2,hX2,hlp⟩:=bE.1 hlp;obtain ⟨Y2,hY2,hlp⟩:=bE.1 hlp;have hix:ix<ps.length:=(Z60 HLEN.out);have hix2:ix<1000000:=(Z47);obtain ⟨P,hP⟩:∃P:List Int,P=X.getD ix []:=⟨_,rfl⟩;rw [← hP] at hX2 hY2 hlp;have HZ:=aM (impl_reduceAny.mapO_some _ _ _ (impl_reduceAny.mapO_append _ _ _ _ _ hX2 hY2));have HX2:=aM (impl_reduceAny.mapO_some _ _ _ hX2).1;have HL:=aM hlp;clear hX2 hY2 hlp htx htn;obtain ⟨g,eA,hgb,hat⟩:=HSP.out.formN (Z47);subst eA;obtain ⟨p,hp,hcell0⟩:=hat ix hix;clear hat
       have hxP:X[ix]?=some P:=by
        have h1:ix<X.length:=(Z60 HLEN.out);rw [hP,List.getD_eq_getElem?_getD,List.getElem?_eq_getElem h1];rfl
       have hrowP:=(HRA.out.left HLEN.out).row ix p P hp hxP;have hPn:=hrowP.len;have HP:=aM hp;have HROWP:=aM hrowP;clear hP hp hxP hrowP;subst hPn;have c1b0:decide ((ix:Int)<0)=false:=decide_eq_false (Z47);obtain ⟨pv,hpv⟩:∃pv,pv=sv P.length p:=⟨_,rfl⟩;obtain ⟨A11,c11,hpv2⟩:∃A11 c11,pv = .slice A11 P.length c11:=⟨_,_,hpv⟩;have hcell:wr.cell? ⟨g,ix,none⟩=some (.slice A11 P.length c11):=(by rw [hcell0,← hpv2,hpv];rfl);have HPV:=aM (hpv2.symm.trans hpv);have HGB:=aM hgb;clear hcell0 hpv hpv2 hgb;go_wp2_with fail;refine (H106.out).mono ?_;rintro e W2 ⟨rfl,hdr⟩;have HK2:=aM (drawn_kept hdr (fun _=>False));have HB2:=aM (drawn_below hdr HB.out);have HCB:=aM (drawn_cell hdr (cell_new _ _ _));have hcell2:W2.cell? ⟨g,ix,none⟩=some (.slice A11 P.length c11):=cell_kept hcell HK2.out (fun h=>h);clear hcell hdr;have hix3:ix+1≤ps.length:=hix;go_wp2_with fail;clear hcell2 hix3 c1b0;refine (delete_one w.heap.size P.length g c5 ix ps ps.length W2 (HSP.out.kept HK2.out (fun _ _ h=>h)) hix).mono ?_;rintro e W3 ⟨rfl,hsp3,hk3,hb3⟩;obtain ⟨ps1,hps1⟩:∃ps1,ps1=ps.eraseIdx ix:=⟨_,rfl⟩;rw [← hps1] at hsp3 ⊢;have hnd3:=nodup_erase HP.out HND.out;rw [← hps1] at hnd3;have HND3:=aM hnd3;have HND4:=aM (perm_move HP.out HND.out);rw [← hps1] at HND4
       have hmem:∀q∈ps ++ qs,¬q.1=g:=fun q hq e_=>by
        obtain ⟨x_,hx_⟩:=HRA.out.mem hq;exact HSP.out.apart hx_ (by rw [e_];rfl)
       have hra2:=HRA.out.kept HK2.out (fun _ _ h=>h)
       have hra3:RowsAre W3 w.heap.size P.length (ps1 ++ qs) (X.eraseIdx ix ++ Y):=by
        have h1:=(hra2.kept hk3 hmem);rw [hps1];exact ((h1.left HLEN.out).erase ix).append (h1.right HLEN.out)
       have hrp3:RowIs W3 w.heap.size P.length p P:=(HROWP.out.kept HK2.out (fun h=>h)).kept hk3 (hmem p (List.mem_append_left _ (List.mem_of_getElem? HP.out)));have hso3:Spine W3 w.heap.size P.length (.slice A8 qs.length c8) qs:=(HSO.out.kept HK2.out (fun _ _ h=>h)).kept hk3 (fun k_ hk_ e_=>HVV.out g rfl (by rw [hk_,e_]))
       have hB_:wr.heap.size≠g:=fun e_=>by
        have:=HSP.out.lt g rfl;omega
       have hcb3:W3.cell? ⟨wr.heap.size,0,none⟩=some (.int .i64 (c:Int)):=cell_kept HCB.out hk3 hB_
       have hbb:∀q∈ps ++ qs,q.1<wr.heap.size:=fun q hq=>by
        obtain ⟨x_,hx_⟩:=HRA.out.mem hq;exact hx_.lt
       have hbb3:∀q∈ps1 ++ qs,¬wr.heap.size=q.1:=fun q hq e_=>by
        have:=hbb q (by
          rcases List.mem_append.1 hq with h|h
          · rw [hps1] at h
            exact List.mem_append_left _ (List.mem_of_mem_eraseIdx h)
          · exact List.mem_append_right _ h)
        omega
       have HRA3:=aM hra3;have HRP3:=aM hrp3;have HSP3:=aM hsp3;have HSO3:=aM hso3;have HCB3:=aM hcb3;have HBB3:=aM hbb3;have HB3:=aM (hb3 w HB2.out HGB.out);have HVV3:Aside0 (∀k_,(Value.slice (some ⟨g,0,none⟩) ps1.length c5).ownBlock=some k_→(Value.slice A8 qs.length c8).ownBlock≠some k_):=⟨HVV.out⟩;have HPS3:Aside0 (ps1.length=(X.eraseIdx ix).length):=⟨by rw [hps1,List.length_eraseIdx,List.length_eraseIdx,HLEN.out]⟩;have hp1:ps1.length<1000000:=(by rw [hps1,List.length_eraseIdx,if_pos hix];omega);have hq1:qs.length<1000000:=(Z47);obtain ⟨wc_,ew_⟩:∃x:World,x=wr:=⟨_,rfl⟩;subst ew_;clear hsp3 hk3 hb3 hps1 hnd3 hmem hra2 hra3 hrp3 hso3 hB_ hcb3 hbb hbb3 HSP HSO HRA HND HVV HB HK2 HB2 HCB HXC H106 AT HLEN HCAP HROWP HGB;go_wp2;go_loopg [50] 3 (fun kq v50 w'=>∃t:Nat,v50 = .int .i64 (t:Int)∧Aside0 (t≤2∧kq+t=3)∧Aside0 (RowsAre w' w.heap.size P.length (ps1 ++ qs) (mix (X.eraseIdx ix ++ Y) (X2 ++ Y2) (off ps1.length qs.length t)))∧Aside0 (Kept W3 w' (fun k_=>∃p∈ps1 ++ qs,k_=p.1))∧Aside0 (Below w.heap.size w w'));(case atStart=>exact ⟨0,by first|rfl|(simp;done),⟨Z47,Z47⟩,⟨by rw [show off ps1.length qs.length 0=0 from rfl,mix_zero];exact HRA3.out⟩,⟨Kept.refl _ _⟩,HB3⟩)
       case round=>
        obtain ⟨t,rfl,HT,HRA,HK,HB⟩:=hrel
        have hspr:=HSP3.out.kept HK.out (fun k_ hk_ ⟨p_,hp_,e_⟩=>by
          obtain ⟨x_,hx_⟩:=HRA3.out.mem hp_
          exact HSP3.out.apart hx_ (by rw [hk_,e_]))
        have hsor:=HSO3.out.kept HK.out (fun k_ hk_ ⟨p_,hp_,e_⟩=>by
          obtain ⟨x_,hx_⟩:=HRA3.out.mem hp_
          exact HSO3.out.apart hx_ (by rw [hk_,e_]))
        have HSPR:=aM hspr;have HSOR:=aM hsor;clear hspr hsor;by_cases ht0:t=0
        ·subst ht0;have hidx:=index_left (some ⟨g,0,none⟩) A8 ps1.length qs.length c5 c8;go_wp2;clear hidx;go_loopg [55] (ps1.length+1) (fun kq v55 w'=>∃j:Nat,v55 = .int .i64 (j:Int)∧Aside0 (j≤ps1.length∧kq+j=ps1.length+1)∧Aside0 (RowsAre w' w.heap.size P.length (ps1 ++ qs) (mix (X.eraseIdx ix ++ Y) (X2 ++ Y2) (0+j)))∧Aside0 (Kept W3 w' (fun k_=>∃p∈ps1 ++ qs,k_=p.1))∧Aside0 (Below w.heap.size w w'));(case atStart=>exact ⟨0,by first|rfl|(simp;done),⟨Z47,Z47⟩,⟨HRA.out⟩,HK,HB⟩)
         case round=>
          clear HRA HK HB HSPR HSOR;obtain ⟨j,rfl,HJ,HRA,HK,HB⟩:=hrel;by_cases hj:j<ps1.length
          ·have hspj:=HSP3.out.kept HK.out (fun k_ hk_ ⟨p_,hp_,e_⟩=>by
             obtain ⟨x_,hx_⟩:=HRA3.out.mem hp_
             exact HSP3.out.apart hx_ (by rw [hk_,e_]))
           obtain ⟨g2,e2,_,hat⟩:=hspj.formN (Z47);cases e2;obtain ⟨q,hq,hcellq⟩:=hat j hj;clear hat hspj;have hqa:(ps1 ++ qs)[0+j]?=some q:=(by rw [Nat.zero_add,List.getElem?_append_left hj];exact hq);obtain ⟨x,hx,hrow⟩:=HRA.out.get hqa
           have hxx:(X.eraseIdx ix ++ Y)[0+j]?=some x:=by
            rw [mix_get _ _ _ _ HZ.out.1,if_neg (Z47)] at hx;exact hx
           obtain ⟨y,hy,hf⟩:=HZ.out.2 _ x hxx;clear hx hxx hq;obtain ⟨ws_,es_⟩:∃z:World,z=wr:=⟨_,rfl⟩;subst es_;obtain ⟨a9,ha9⟩:∃a9:Int,a9=(c:Int):=⟨_,rfl⟩;have hu:(Value.slice (some ⟨q.1,0,none⟩) x.length q.2)=sv P.length q:=(by rw [hrow.len];rfl);have hcellu:ws_.cell? ⟨g,j,none⟩=some (.slice (some ⟨q.1,0,none⟩) x.length q.2):=(by rw [hu];exact hcellq);have HU:=aM hu;obtain ⟨P15_,HP15⟩:∃P15_:Nat→Prop,Aside0 (∀k_,P15_ k_↔k_=q.1):=⟨fun k_=>k_=q.1,⟨fun _=>Iff.rfl⟩⟩;have hqm:q∈ps1 ++ qs:=List.mem_of_getElem? hqa;have HO15:Aside0 (Kd.R (Kd.int .i64) 3 ws_ w.heap.size (fun k_=>(P15_ k_∨ws_.heap.size≤k_)) (.slice (some ⟨q.1,0,none⟩) x.length q.2) x):=⟨by rw [hu];exact Kd.R_mono hrow (fun k_ hk=>.inl ((HP15.out k_).2 hk))⟩;have HKS:Aside0 (∀w',Kept ws_ w' (fun k_=>P15_ k_)→Kept W3 w' (fun k_=>∃p∈ps1 ++ qs,k_=p.1)):=⟨fun w' hk=>Kept.then_ HK.out hk (fun k_ hs_=>.inl ⟨q,hqm,(HP15.out k_).1 hs_⟩)⟩
           have HR11:Aside0 (∀W_,Kept ws_ W_ (fun k_=>P15_ k_)→Kd.C (Kd.int .i64) W_ A11 P.length P):=⟨fun W_ hk=>by
             have h1:=HRP3.out.kept (HKS.out W_ hk) (fun ⟨p_,hp_,e_⟩=>HND3.out.2 p_ hp_ e_.symm)
             unfold RowIs at h1
             rw [← HPV.out] at h1
             exact (Kd.R_reads' h1).2.2⟩
           have HCBr:Aside0 (∀W_,Kept ws_ W_ (fun k_=>P15_ k_)→W_.cell? ⟨wc_.heap.size,0,none⟩=some (.int .i64 a9)):=⟨fun W_ hk=>by
             rw [ha9]
             exact cell_kept HCB3.out (HKS.out W_ hk) (fun ⟨p_,hp_,e_⟩=>HBB3.out p_ hp_ e_)⟩
           have hcb:ws_.cell? ⟨wc_.heap.size,0,none⟩=some (.int .i64 a9):=HCBr.out ws_ (Kept.refl _ _);have HSTEP:Aside0 (∀w',Kept ws_ w' (fun k_=>P15_ k_)→RowIs w' w.heap.size P.length q y→RowsAre w' w.heap.size P.length (ps1 ++ qs) (mix (X.eraseIdx ix ++ Y) (X2 ++ Y2) (0+(j+1)))):=⟨fun w' hk hr=>RowsAre.step HZ.out.1 HRA.out HND3.out.1 hqa hy (hk.mono fun k_ h_=>(HP15.out k_).1 h_) hr⟩;have HKO:=HK;clear HK;have HK:=aM (Kept.refl ws_ (fun k_=>P15_ k_));have H:(if 0≤a9 then (if a9<(x.length:Int) then (if (rd x a9)=0 then (some x) else (impl_reduceAny.l0 k a9 P x (rd x a9) (x.length:Int) 0)) else (none)) else (none))=some y:=(by rw [ha9];exact hf);clear hf ha9 hu hcellq hrow hqa hy hqm HRA;obtain ⟨c17b0,H⟩:=iN H;obtain ⟨c18b0,H⟩:=iN H;by_cases c19:(rd x a9)=0
           ·rw [if_pos c19] at H;have c19b0:((rd x a9) == 0)=true:=beq_iff_eq.mpr c19;have c19b1:((rd x a9) != 0)=false:=bne_eq_false_iff_eq.mpr c19;clear c19;obtain rfl:=Option.some.inj H;obtain ⟨Ao20,co20,eo20⟩:=Kd.R_slice HO15.out;cases eo20;have p149:0≤(a9:Int):=zd;have q149:a9<(x.length:Int):=zd;obtain ⟨ad149,e149,hx149_0⟩:=Kd.at_int (Kd.R_reads' HO15.out).2.2 a9 p149 q149;cases e149;(first|simp only [add_plain] at hx149_0|skip);replace p149:=eq_true p149;replace q149:=eq_true q149;go_wp2;go_roundg (ps1.length-j);(case measure=>have:=HJ.out;omega);(case rel=>exact ⟨j+1,Z67,⟨Z47,Z47⟩,⟨HSTEP.out _ (Kept.refl _ _) (Z91 HU.out HO15.out)⟩,HKO,HB⟩)
           ·rw [if_neg c19] at H;have c19b0:((rd x a9) == 0)=false:=beq_eq_false_iff_ne.mpr c19;have c19b1:((rd x a9) != 0)=true:=bne_iff_ne.mpr c19;have H':=aM H;clear H;obtain ⟨Ao21,co21,eo21⟩:=Kd.R_slice HO15.out;cases eo21;have p149:0≤(a9:Int):=zd;have q149:a9<(x.length:Int):=zd;obtain ⟨ad149,e149,hx149_0⟩:=Kd.at_int (Kd.R_reads' HO15.out).2.2 a9 p149 q149;cases e149;(first|simp only [add_plain] at hx149_0|skip);replace p149:=eq_true p149;replace q149:=eq_true q149;go_wp2;go_loopg [67] k (fun kq v67 w'=>∃(x15_1:List Int) (x67_1:Int),v67 = .int .i64 x67_1∧Aside0 (impl_reduceAny.l0 kq a9 P x15_1 (rd x a9) (x.length:Int) x67_1=some y)∧Aside0 (kq≤k)∧Aside0 (Kd.R (Kd.int .i64) 3 w' w.heap.size (fun k_=>(P15_ k_∨ws_.heap.size≤k_)) (.slice (some (⟨q.1,0,none⟩:Addr)) x.length q.2) x15_1)∧Aside0 (Kept ws_ w' (fun k_=>P15_ k_))∧Aside0 (Below w.heap.size w w'));(case atStart=>exact ⟨(x),(0),zt,H',⟨Nat.le_refl _⟩,⟨zr HO15.out⟩,⟨zp HK.out⟩,⟨zb HB.out⟩⟩)
            case round=>
             clear H';(try clear c1);(try clear c11);(try clear c17b0);(try clear c18b0);(try clear c19);(try clear c19b0);(try clear c19b1);(try clear hx149_0);(try clear p149);(try clear q149);obtain ⟨x15_1,x67_1,rfl,HA,HK1,HO_15,HK,HB⟩:=hrel;have hl15_1:=(Kd.R_reads' HO_15.out).1;rw [hl15_1] at HO_15;(try simp only [hl15_1]);cases gk with
             | zero=>exact absurd HA.out (by simp [impl_reduceAny.l0])
             | succ k1=>
              have H:=HA.out;clear HA;simp only [impl_reduceAny.l0] at H;by_cases c22:x67_1<(x.length:Int)
              ·rw [if_pos c22] at H;have c22b0:decide (x67_1<(x.length:Int))=true:=decide_eq_true c22;clear c22;obtain ⟨c23b0,H⟩:=iN H;obtain ⟨c24b0,H⟩:=iN H;obtain ⟨c25b0,H⟩:=iN H;obtain ⟨c26b0,H⟩:=iN H;obtain ⟨c27b0,H⟩:=iN H;obtain ⟨y153,hy153⟩:∃y_:List Int,y_=(x15_1.set (x67_1:Int).toNat (wrap64 ((wrap64 ((rd x15_1 x67_1)*(rd P a9)))-(wrap64 ((rd P x67_1)*(rd x a9)))))):=⟨_,rfl⟩;replace H:(impl_reduceAny.l0 k1 a9 P y153 (rd x a9) (x.length:Int) (wrap64 (x67_1+1)))=some y:=(Z2 hy153);have Ny153:=aM hy153;clear hy153;have H':=aM H;clear H;(try go_wp2);replace HO_15:=aM (Kd.R_drew HO_15.out);replace HK:=aM (Kept.drew HK.out);replace HB:=aM (below_drew1 HB.out);have p150:0≤(x67_1:Int):=zd;have q150:x67_1<(x15_1.length:Int):=zd;obtain ⟨ad150,e150,hx150_0⟩:=Kd.at_int (Kd.R_reads' HO_15.out).2.2 x67_1 p150 q150;cases e150;replace p150:=eq_true p150;replace q150:=eq_true q150;have p151:0≤(a9:Int):=zd;have q151:a9<(P.length:Int):=zd;obtain ⟨ad151,e151,hx151_0⟩:=Kd.at_int (Kd.C_kept_now HR11.out HK.out) a9 p151 q151;have hw151_0:=hx151_0;cases e151;replace p151:=eq_true p151;replace q151:=eq_true q151;have p152:0≤(x67_1:Int):=zd;have q152:x67_1<(P.length:Int):=zd;obtain ⟨ad152,e152,hx152_0⟩:=Kd.at_int (Kd.C_kept_now HR11.out HK.out) x67_1 p152 q152;have hw152_0:=hx152_0;obtain rfl:ad151=ad152:=(by injection e152);replace p152:=eq_true p152;replace q152:=eq_true q152;have p28:0≤(x67_1:Int):=zd;have q28:(x67_1:Int)<((x15_1.length:Int):Int):=zd;obtain ⟨go28,co28,eo28,gb28,gl28,cl28,HG28⟩:=Kd.R_form HO_15.out (Z47);(first|cases eo28|(injection eo28 with ea_ en_ ec_;(first|subst ea_|(injection ea_ with ea_;subst ea_));subst ec_;clear en_));have GB28:=aM gb28;have GG28:=aM HG28;clear gb28 gl28 HG28;have HMgo28:=aM (show (P15_ q.1∨ws_.heap.size≤q.1) from (HO_15.out.1 _ rfl));(first|simp only [add_plain] at hx149_0|skip);(first|simp only [add_plain] at hx150_0|skip);obtain ⟨hx28_0,hf28_0⟩:=Kd.R_celln 0 HO_15.out (x67_1:Int) p28 q28;replace p28:=eq_true p28;replace q28:=eq_true q28;have HP30:=Kd.R_putn HO_15.out (x67_1:Int) (wrap64 ((wrap64 ((rd x15_1 x67_1)*(rd P a9)))-(wrap64 ((rd P x67_1)*(rd x a9)))));rw [← Ny153.out] at HP30;have HQ30:=aM HP30;clear HP30;refine start_ (n:=20) (S:=fun w'=>w'.cell? ⟨q.1,(x67_1).toNat,none⟩=some (.int .i64 (rd x15_1 x67_1))∧w'.cell? (ad151.add (a9).toNat)=some (.int .i64 (rd P a9))∧w'.cell? (ad151.add (x67_1).toNat)=some (.int .i64 (rd P x67_1))∧w'.cell? ⟨wc_.heap.size,0,none⟩=some (.int .i64 a9)) (ds:=[19]) #[ff,ff,ff,ff,ff,ff,ff,ff,ff,ff,ff,ff,ff,ff,ff,ff,ff,ff,ff,ff] (Z17) rfl rfl ⟨hx150_0,(Kd.foot_int (HR11.out _ (Z49 HK.out HMgo28.out)) a9 (of_eq_true p151) (of_eq_true q151)),(Kd.foot_int (HR11.out _ (Z49 HK.out HMgo28.out)) x67_1 (of_eq_true p152) (of_eq_true q152)),(HCBr.out _ (Z49 HK.out HMgo28.out))⟩ (fun hHeld=>?_);refine with_tabW impl_reduceAny.tab26 impl_reduceAny.bits26 (fun HT_ HW_=>?_);generalize wr.drew=w29 at HO_15 HK HB GG28 HQ30 hf28_0 hx150_0 hx151_0 hx152_0 hx28_0 hHeld ⊢;refine pu 0 (some 70) #[tt,ff,ff,ff,ff,ff,ff,ff,ff,ff,ff,ff,ff,ff,ff,ff,ff,ff,ff,ff] rfl rfl HT_ ?_;refine pu 1 (some 71) #[tt,tt,ff,ff,ff,ff,ff,ff,ff,ff,ff,ff,ff,ff,ff,ff,ff,ff,ff,ff] rfl rfl HT_ ?_;refine pu 2 (some 72) #[tt,tt,tt,ff,ff,ff,ff,ff,ff,ff,ff,ff,ff,ff,ff,ff,ff,ff,ff,ff] rfl rfl HT_ ?_;refine pu 3 (some 73) #[tt,tt,tt,tt,ff,ff,ff,ff,ff,ff,ff,ff,ff,ff,ff,ff,ff,ff,ff,ff] rfl rfl HT_ ?_;refine pu 4 (some 74) #[tt,tt,tt,tt,tt,ff,ff,ff,ff,ff,ff,ff,ff,ff,ff,ff,ff,ff,ff,ff] rfl rfl HT_ ?_;refine pu 6 (some 76) #[tt,tt,tt,tt,tt,ff,tt,ff,ff,ff,ff,ff,ff,ff,ff,ff,ff,ff,ff,ff] rfl rfl HT_ ?_;refine take_ (i:=7) (N:=some 77) (v:=?_) (a':=?_) #[tt,tt,tt,tt,tt,ff,tt,tt,ff,ff,ff,ff,ff,ff,ff,ff,ff,ff,ff,ff] rfl rfl (take_ofW HT_.out HW_.out (Z17)) (fun _ _ _ h=>h) (Or.inl ⟨Z83,?_⟩) hHeld ?_ ?_;rotate_left
               ·rintro w' ⟨s0,s1,s2,s3⟩;go_simp;(with_reducible rfl)
               rotate_left
               ·simp only [Act.put,aQ,zQ,sQ,i64_w,i32_w];rfl
               refine pu 8 (some 78) #[tt,tt,tt,tt,tt,ff,tt,tt,tt,ff,ff,ff,ff,ff,ff,ff,ff,ff,ff,ff] rfl rfl HT_ ?_;refine pu 11 (some 81) #[tt,tt,tt,tt,tt,ff,tt,tt,tt,ff,ff,tt,ff,ff,ff,ff,ff,ff,ff,ff] rfl rfl HT_ ?_;refine pu 12 (some 82) #[tt,tt,tt,tt,tt,ff,tt,tt,tt,ff,ff,tt,tt,ff,ff,ff,ff,ff,ff,ff] rfl rfl HT_ ?_;refine pu 13 (some 83) #[tt,tt,tt,tt,tt,ff,tt,tt,tt,ff,ff,tt,tt,tt,ff,ff,ff,ff,ff,ff] rfl rfl HT_ ?_;refine pu 15 (some 85) #[tt,tt,tt,tt,tt,ff,tt,tt,tt,ff,ff,tt,tt,tt,ff,tt,ff,ff,ff,ff] rfl rfl HT_ ?_;refine take_ (i:=5) (N:=some 75) (v:=?_) (a':=?_) #[tt,tt,tt,tt,tt,tt,tt,tt,tt,ff,ff,tt,tt,tt,ff,tt,ff,ff,ff,ff] rfl rfl (take_ofW HT_.out HW_.out (Z17)) (fun _ _ _ h=>h) (Or.inl ⟨Z83,?_⟩) hHeld ?_ ?_;rotate_left
               ·rintro w' ⟨s0,s1,s2,s3⟩;go_simp;(with_reducible rfl)
               rotate_left
               ·simp only [Act.put,aQ,zQ,sQ,i64_w,i32_w];rfl
               refine take_ (i:=9) (N:=some 79) (v:=?_) (a':=?_) #[tt,tt,tt,tt,tt,tt,tt,tt,tt,tt,ff,tt,tt,tt,ff,tt,ff,ff,ff,ff] rfl rfl (take_ofW HT_.out HW_.out (Z17)) (fun _ _ _ h=>h) (Or.inl ⟨Z83,?_⟩) hHeld ?_ ?_;rotate_left
               ·rintro w' ⟨s0,s1,s2,s3⟩;go_simp;(with_reducible rfl)
               rotate_left
               ·simp only [Act.put,aQ,zQ,sQ,i64_w,i32_w];rfl
               refine pu 10 (some 80) #[tt,tt,tt,tt,tt,tt,tt,tt,tt,tt,tt,tt,tt,tt,ff,tt,ff,ff,ff,ff] rfl rfl HT_ ?_;refine take_ (i:=14) (N:=some 84) (v:=?_) (a':=?_) #[tt,tt,tt,tt,tt,tt,tt,tt,tt,tt,tt,tt,tt,tt,tt,tt,ff,ff,ff,ff] rfl rfl (take_ofW HT_.out HW_.out (Z17)) (fun _ _ _ h=>h) (Or.inl ⟨Z83,?_⟩) hHeld ?_ ?_;rotate_left
               ·rintro w' ⟨s0,s1,s2,s3⟩;go_simp;(with_reducible rfl)
               rotate_left
               ·simp only [Act.put,aQ,zQ,sQ,i64_w,i32_w];rfl
               refine pu 16 (some 86) #[tt,tt,tt,tt,tt,tt,tt,tt,tt,tt,tt,tt,tt,tt,tt,tt,tt,ff,ff,ff] rfl rfl HT_ ?_;refine pu 17 (some 87) #[tt,tt,tt,tt,tt,tt,tt,tt,tt,tt,tt,tt,tt,tt,tt,tt,tt,tt,ff,ff] rfl rfl HT_ ?_;refine pu 18 (some 88) #[tt,tt,tt,tt,tt,tt,tt,tt,tt,tt,tt,tt,tt,tt,tt,tt,tt,tt,tt,ff] rfl rfl HT_ ?_;refine last_ (i:=19) (N:=none) #[tt,tt,tt,tt,tt,tt,tt,tt,tt,tt,tt,tt,tt,tt,tt,tt,tt,tt,tt,tt] rfl rfl (one_of HT_.out (Z17)) (Z19) (fun K hK=>?_);refine skip_ (w1:=?_) (Z83) rfl ?_ ?_;rotate_left
               ·go_simp;rfl
               refine hK.out _ _ ?_;clear hK K;refine done_ (done_of HT_.out (Z17)) ?_;(try go_wp2);(try simp only [← hl15_1]);go_roundg k1;(case measure=>have:=HK1.out;omega);(case rel=>exact ⟨(y153),(wrap64 (x67_1+1)),zt,H',⟨Z60 HK1.out⟩,⟨Z35 hl15_1 HQ30.out⟩,⟨by repeat (first|(with_reducible first|exact HK.out|apply Kept.alloc|apply Kept.drewN|apply Kept.drew|refine Kept.setCell ?_ HMgo28.out _)|exact HK.out)⟩,⟨zs HB.out⟩⟩)
              ·rw [if_neg c22] at H;have c22b0:decide (x67_1<(x.length:Int))=false:=decide_eq_false c22;have c22b1:decide (x67_1<(x15_1.length:Int))=false:=(by have h5_:=hl15_1;rw [show (x15_1.length:Int)=(x.length:Int) by omega];exact c22b0);clear c22;obtain ⟨t154,A31,H⟩:=bz H;obtain rfl:=Option.some.inj H;go_wp2_with (first|((with_reducible refine gate_callee (f:=105) rfl ?_);refine gm (some 91) Try.func105 #[.slice (some (⟨q.1,0,none⟩:Addr)) x15_1.length q.2] ?_;(with_reducible refine (impl_tidy.calls k1 (fun k_=>some k_=(.slice (some (⟨q.1,0,none⟩:Addr)) x15_1.length q.2:Value).ownBlock) (.slice (some (⟨q.1,0,none⟩:Addr)) x15_1.length q.2) x15_1 t154 w _ ?side1 ?side2 A31.out).mono ?_);(case side1=>exact (Z56 HB.out));(case side2=>exact Kd.R_tight rfl HO_15.out);rintro e w32 ⟨rfl,hy0,hb,hkp⟩;refine ⟨_,rfl,?_⟩;replace HK:=aM (Kept.then_ (S:=(fun k_=>P15_ k_)) (zp HK.out) hkp (fun k_ hs_=>(fun e_=>(HO_15.out.1 k_ e_.symm)) hs_));replace HO_15:=aM (Kd.R_reok rfl hy0 (fun k_ e_=>HO_15.out.1 k_ e_));replace HB:=aM (hb);(try clear hb);(try clear hkp);(try clear hy0)));go_roundg (ps1.length-j);(case measure=>have:=HJ.out;omega);(case rel=>exact ⟨j+1,Z67,⟨Z47,Z47⟩,⟨HSTEP.out _ HK.out (Z88 HU.out hl15_1 HO_15.out)⟩,⟨HKS.out _ HK.out⟩,HB⟩)
          ·have hje:ps1.length=j:=(Z60 HJ.out);clear hje;go_wp2;go_roundg (2);(case measure=>have:=HT.out;omega);(case rel=>exact ⟨0+1,by first|rfl|(simp;done)|go_num,⟨Z47,Z47⟩,⟨by have h1:=HRA.out;have h2:=HJ.out;rw [show 0+j=off ps1.length qs.length (0+1) by show _=ps1.length;omega] at h1;exact h1⟩,HK,HB⟩)
        ·by_cases ht1:t=1
         ·subst ht1;have hidx:=index_right (some ⟨g,0,none⟩) A8 ps1.length qs.length c5 c8;go_wp2;clear hidx;go_loopg [55] (qs.length+1) (fun kq v55 w'=>∃j:Nat,v55 = .int .i64 (j:Int)∧Aside0 (j≤qs.length∧kq+j=qs.length+1)∧Aside0 (RowsAre w' w.heap.size P.length (ps1 ++ qs) (mix (X.eraseIdx ix ++ Y) (X2 ++ Y2) (ps1.length+j)))∧Aside0 (Kept W3 w' (fun k_=>∃p∈ps1 ++ qs,k_=p.1))∧Aside0 (Below w.heap.size w w'));(case atStart=>exact ⟨0,by first|rfl|(simp;done),⟨Z47,Z47⟩,⟨HRA.out⟩,HK,HB⟩)
          case round=>
           clear HRA HK HB HSPR HSOR;obtain ⟨j,rfl,HJ,HRA,HK,HB⟩:=hrel;by_cases hj:j<qs.length
           ·have hspj:=HSO3.out.kept HK.out (fun k_ hk_ ⟨p_,hp_,e_⟩=>by
              obtain ⟨x_,hx_⟩:=HRA3.out.mem hp_
              exact HSO3.out.apart hx_ (by rw [hk_,e_]))
            obtain ⟨g2,e2,_,hat⟩:=hspj.formN (Z47);cases e2;obtain ⟨q,hq,hcellq⟩:=hat j hj;clear hat hspj;have hqa:(ps1 ++ qs)[ps1.length+j]?=some q:=(by rw [List.getElem?_append_right (Z47),Nat.add_sub_cancel_left];exact hq);obtain ⟨x,hx,hrow⟩:=HRA.out.get hqa
            have hxx:(X.eraseIdx ix ++ Y)[ps1.length+j]?=some x:=by
             rw [mix_get _ _ _ _ HZ.out.1,if_neg (Z47)] at hx;exact hx
            obtain ⟨y,hy,hf⟩:=HZ.out.2 _ x hxx;clear hx hxx hq;obtain ⟨ws_,es_⟩:∃z:World,z=wr:=⟨_,rfl⟩;subst es_;obtain ⟨a9,ha9⟩:∃a9:Int,a9=(c:Int):=⟨_,rfl⟩;have hu:(Value.slice (some ⟨q.1,0,none⟩) x.length q.2)=sv P.length q:=(by rw [hrow.len];rfl);have hcellu:ws_.cell? ⟨g2,j,none⟩=some (.slice (some ⟨q.1,0,none⟩) x.length q.2):=(by rw [hu];exact hcellq);have HU:=aM hu;obtain ⟨P15_,HP15⟩:∃P15_:Nat→Prop,Aside0 (∀k_,P15_ k_↔k_=q.1):=⟨fun k_=>k_=q.1,⟨fun _=>Iff.rfl⟩⟩;have hqm:q∈ps1 ++ qs:=List.mem_of_getElem? hqa;have HO15:Aside0 (Kd.R (Kd.int .i64) 3 ws_ w.heap.size (fun k_=>(P15_ k_∨ws_.heap.size≤k_)) (.slice (some ⟨q.1,0,none⟩) x.length q.2) x):=⟨by rw [hu];exact Kd.R_mono hrow (fun k_ hk=>.inl ((HP15.out k_).2 hk))⟩;have HKS:Aside0 (∀w',Kept ws_ w' (fun k_=>P15_ k_)→Kept W3 w' (fun k_=>∃p∈ps1 ++ qs,k_=p.1)):=⟨fun w' hk=>Kept.then_ HK.out hk (fun k_ hs_=>.inl ⟨q,hqm,(HP15.out k_).1 hs_⟩)⟩
            have HR11:Aside0 (∀W_,Kept ws_ W_ (fun k_=>P15_ k_)→Kd.C (Kd.int .i64) W_ A11 P.length P):=⟨fun W_ hk=>by
              have h1:=HRP3.out.kept (HKS.out W_ hk) (fun ⟨p_,hp_,e_⟩=>HND3.out.2 p_ hp_ e_.symm)
              unfold RowIs at h1
              rw [← HPV.out] at h1
              exact (Kd.R_reads' h1).2.2⟩
            have HCBr:Aside0 (∀W_,Kept ws_ W_ (fun k_=>P15_ k_)→W_.cell? ⟨wc_.heap.size,0,none⟩=some (.int .i64 a9)):=⟨fun W_ hk=>by
              rw [ha9]
              exact cell_kept HCB3.out (HKS.out W_ hk) (fun ⟨p_,hp_,e_⟩=>HBB3.out p_ hp_ e_)⟩
            have hcb:ws_.cell? ⟨wc_.heap.size,0,none⟩=some (.int .i64 a9):=HCBr.out ws_ (Kept.refl _ _);have HSTEP:Aside0 (∀w',Kept ws_ w' (fun k_=>P15_ k_)→RowIs w' w.heap.size P.length q y→RowsAre w' w.heap.size P.length (ps1 ++ qs) (mix (X.eraseIdx ix ++ Y) (X2 ++ Y2) (ps1.length+(j+1)))):=⟨fun w' hk hr=>RowsAre.step HZ.out.1 HRA.out HND3.out.1 hqa hy (hk.mono fun k_ h_=>(HP15.out k_).1 h_) hr⟩;have HKO:=HK;clear HK;have HK:=aM (Kept.refl ws_ (fun k_=>P15_ k_));have H:(if 0≤a9 then (if a9<(x.length:Int) then (if (rd x a9)=0 then (some x) else (impl_reduceAny.l0 k a9 P x (rd x a9) (x.length:Int) 0)) else (none)) else (none))=some y:=(by rw [ha9];exact hf);clear hf ha9 hu hcellq hrow hqa hy hqm HRA;obtain ⟨c17b0,H⟩:=iN H;obtain ⟨c18b0,H⟩:=iN H;by_cases c19:(rd x a9)=0
            ·rw [if_pos c19] at H;have c19b0:((rd x a9) == 0)=true:=beq_iff_eq.mpr c19;have c19b1:((rd x a9) != 0)=false:=bne_eq_false_iff_eq.mpr c19;clear c19;obtain rfl:=Option.some.inj H;obtain ⟨Ao20,co20,eo20⟩:=Kd.R_slice HO15.out;cases eo20;have p149:0≤(a9:Int):=zd;have q149:a9<(x.length:Int):=zd;obtain ⟨ad149,e149,hx149_0⟩:=Kd.at_int (Kd.R_reads' HO15.out).2.2 a9 p149 q149;cases e149;(first|simp only [add_plain] at hx149_0|skip);replace p149:=eq_true p149;replace q149:=eq_true q149;go_wp2;go_roundg (qs.length-j);(case measure=>have:=HJ.out;omega);(case rel=>exact ⟨j+1,Z67,⟨Z47,Z47⟩,⟨HSTEP.out _ (Kept.refl _ _) (Z91 HU.out HO15.out)⟩,HKO,HB⟩)
            ·rw [if_neg c19] at H;have c19b0:((rd x a9) == 0)=false:=beq_eq_false_iff_ne.mpr c19;have c19b1:((rd x a9) != 0)=true:=bne_iff_ne.mpr c19;have H':=aM H;clear H;obtain ⟨Ao21,co21,eo21⟩:=Kd.R_slice HO15.out;cases eo21;have p149:0≤(a9:Int):=zd;have q149:a9<(x.length:Int):=zd;obtain ⟨ad149,e149,hx149_0⟩:=Kd.at_int (Kd.R_reads' HO15.out).2.2 a9 p149 q149;cases e149;(first|simp only [add_plain] at hx149_0|skip);replace p149:=eq_true p149;replace q149:=eq_true q149;go_wp2;go_loopg [67] k (fun kq v67 w'=>∃(x15_1:List Int) (x67_1:Int),v67 = .int .i64 x67_1∧Aside0 (impl_reduceAny.l0 kq a9 P x15_1 (rd x a9) (x.length:Int) x67_1=some y)∧Aside0 (kq≤k)∧Aside0 (Kd.R (Kd.int .i64) 3 w' w.heap.size (fun k_=>(P15_ k_∨ws_.heap.size≤k_)) (.slice (some (⟨q.1,0,none⟩:Addr)) x.length q.2) x15_1)∧Aside0 (Kept ws_ w' (fun k_=>P15_ k_))∧Aside0 (Below w.heap.size w w'));(case atStart=>exact ⟨(x),(0),zt,H',⟨Nat.le_refl _⟩,⟨zr HO15.out⟩,⟨zp HK.out⟩,⟨zb HB.out⟩⟩)
             case round=>
              clear H';(try clear c1);(try clear c11);(try clear c17b0);(try clear c18b0);(try clear c19);(try clear c19b0);(try clear c19b1);(try clear hx149_0);(try clear p149);(try clear q149);obtain ⟨x15_1,x67_1,rfl,HA,HK1,HO_15,HK,HB⟩:=hrel;have hl15_1:=(Kd.R_reads' HO_15.out).1;rw [hl15_1] at HO_15;(try simp only [hl15_1]);cases gk with
              | zero=>exact absurd HA.out (by simp [impl_reduceAny.l0])
              | succ k1=>
               have H:=HA.out;clear HA;simp only [impl_reduceAny.l0] at H;by_cases c22:x67_1<(x.length:Int)
               ·rw [if_pos c22] at H;have c22b0:decide (x67_1<(x.length:Int))=true:=decide_eq_true c22;clear c22;obtain ⟨c23b0,H⟩:=iN H;obtain ⟨c24b0,H⟩:=iN H;obtain ⟨c25b0,H⟩:=iN H;obtain ⟨c26b0,H⟩:=iN H;obtain ⟨c27b0,H⟩:=iN H;obtain ⟨y153,hy153⟩:∃y_:List Int,y_=(x15_1.set (x67_1:Int).toNat (wrap64 ((wrap64 ((rd x15_1 x67_1)*(rd P a9)))-(wrap64 ((rd P x67_1)*(rd x a9)))))):=⟨_,rfl⟩;replace H:(impl_reduceAny.l0 k1 a9 P y153 (rd x a9) (x.length:Int) (wrap64 (x67_1+1)))=some y:=(Z2 hy153);have Ny153:=aM hy153;clear hy153;have H':=aM H;clear H;(try go_wp2);replace HO_15:=aM (Kd.R_drew HO_15.out);replace HK:=aM (Kept.drew HK.out);replace HB:=aM (below_drew1 HB.out);have p150:0≤(x67_1:Int):=zd;have q150:x67_1<(x15_1.length:Int):=zd;obtain ⟨ad150,e150,hx150_0⟩:=Kd.at_int (Kd.R_reads' HO_15.out).2.2 x67_1 p150 q150;cases e150;replace p150:=eq_true p150;replace q150:=eq_true q150;have p151:0≤(a9:Int):=zd;have q151:a9<(P.length:Int):=zd;obtain ⟨ad151,e151,hx151_0⟩:=Kd.at_int (Kd.C_kept_now HR11.out HK.out) a9 p151 q151;have hw151_0:=hx151_0;cases e151;replace p151:=eq_true p151;replace q151:=eq_true q151;have p152:0≤(x67_1:Int):=zd;have q152:x67_1<(P.length:Int):=zd;obtain ⟨ad152,e152,hx152_0⟩:=Kd.at_int (Kd.C_kept_now HR11.out HK.out) x67_1 p152 q152;have hw152_0:=hx152_0;obtain rfl:ad151=ad152:=(by injection e152);replace p152:=eq_true p152;replace q152:=eq_true q152;have p28:0≤(x67_1:Int):=zd;have q28:(x67_1:Int)<((x15_1.length:Int):Int):=zd;obtain ⟨go28,co28,eo28,gb28,gl28,cl28,HG28⟩:=Kd.R_form HO_15.out (Z47);(first|cases eo28|(injection eo28 with ea_ en_ ec_;(first|subst ea_|(injection ea_ with ea_;subst ea_));subst ec_;clear en_));have GB28:=aM gb28;have GG28:=aM HG28;clear gb28 gl28 HG28;have HMgo28:=aM (show (P15_ q.1∨ws_.heap.size≤q.1) from (HO_15.out.1 _ rfl));(first|simp only [add_plain] at hx149_0|skip);(first|simp only [add_plain] at hx150_0|skip);obtain ⟨hx28_0,hf28_0⟩:=Kd.R_celln 0 HO_15.out (x67_1:Int) p28 q28;replace p28:=eq_true p28;replace q28:=eq_true q28;have HP30:=Kd.R_putn HO_15.out (x67_1:Int) (wrap64 ((wrap64 ((rd x15_1 x67_1)*(rd P a9)))-(wrap64 ((rd P x67_1)*(rd x a9)))));rw [← Ny153.out] at HP30;have HQ30:=aM HP30;clear HP30;refine start_ (n:=20) (S:=fun w'=>w'.cell? ⟨q.1,(x67_1).toNat,none⟩=some (.int .i64 (rd x15_1 x67_1))∧w'.cell? (ad151.add (a9).toNat)=some (.int .i64 (rd P a9))∧w'.cell? (ad151.add (x67_1).toNat)=some (.int .i64 (rd P x67_1))∧w'.cell? ⟨wc_.heap.size,0,none⟩=some (.int .i64 a9)) (ds:=[19]) #[ff,ff,ff,ff,ff,ff,ff,ff,ff,ff,ff,ff,ff,ff,ff,ff,ff,ff,ff,ff] (Z17) rfl rfl ⟨hx150_0,(Kd.foot_int (HR11.out _ (Z49 HK.out HMgo28.out)) a9 (of_eq_true p151) (of_eq_true q151)),(Kd.foot_int (HR11.out _ (Z49 HK.out HMgo28.out)) x67_1 (of_eq_true p152) (of_eq_true q152)),(HCBr.out _ (Z49 HK.out HMgo28.out))⟩ (fun hHeld=>?_);refine with_tabW impl_reduceAny.tab26 impl_reduceAny.bits26 (fun HT_ HW_=>?_);generalize wr.drew=w29 at HO_15 HK HB GG28 HQ30 hf28_0 hx150_0 hx151_0 hx152_0 hx28_0 hHeld ⊢;refine pu 0 (some 70) #[tt,ff,ff,ff,ff,ff,ff,ff,ff,ff,ff,ff,ff,ff,ff,ff,ff,ff,ff,ff] rfl rfl HT_ ?_;refine pu 1 (some 71) #[tt,tt,ff,ff,ff,ff,ff,ff,ff,ff,ff,ff,ff,ff,ff,ff,ff,ff,ff,ff] rfl rfl HT_ ?_;refine pu 2 (some 72) #[tt,tt,tt,ff,ff,ff,ff,ff,ff,ff,ff,ff,ff,ff,ff,ff,ff,ff,ff,ff] rfl rfl HT_ ?_;refine pu 3 (some 73) #[tt,tt,tt,tt,ff,ff,ff,ff,ff,ff,ff,ff,ff,ff,ff,ff,ff,ff,ff,ff] rfl rfl HT_ ?_;refine pu 4 (some 74) #[tt,tt,tt,tt,tt,ff,ff,ff,ff,ff,ff,ff,ff,ff,ff,ff,ff,ff,ff,ff] rfl rfl HT_ ?_;refine pu 6 (some 76) #[tt,tt,tt,tt,tt,ff,tt,ff,ff,ff,ff,ff,ff,ff,ff,ff,ff,ff,ff,ff] rfl rfl HT_ ?_;refine take_ (i:=7) (N:=some 77) (v:=?_) (a':=?_) #[tt,tt,tt,tt,tt,ff,tt,tt,ff,ff,ff,ff,ff,ff,ff,ff,ff,ff,ff,ff] rfl rfl (take_ofW HT_.out HW_.out (Z17)) (fun _ _ _ h=>h) (Or.inl ⟨Z83,?_⟩) hHeld ?_ ?_;rotate_left
                ·rintro w' ⟨s0,s1,s2,s3⟩;go_simp;(with_reducible rfl)
                rotate_left
                ·simp only [Act.put,aQ,zQ,sQ,i64_w,i32_w];rfl
                refine pu 8 (some 78) #[tt,tt,tt,tt,tt,ff,tt,tt,tt,ff,ff,ff,ff,ff,ff,ff,ff,ff,ff,ff] rfl rfl HT_ ?_;refine pu 11 (some 81) #[tt,tt,tt,tt,tt,ff,tt,tt,tt,ff,ff,tt,ff,ff,ff,ff,ff,ff,ff,ff] rfl rfl HT_ ?_;refine pu 12 (some 82) #[tt,tt,tt,tt,tt,ff,tt,tt,tt,ff,ff,tt,tt,ff,ff,ff,ff,ff,ff,ff] rfl rfl HT_ ?_;refine pu 13 (some 83) #[tt,tt,tt,tt,tt,ff,tt,tt,tt,ff,ff,tt,tt,tt,ff,ff,ff,ff,ff,ff] rfl rfl HT_ ?_;refine pu 15 (some 85) #[tt,tt,tt,tt,tt,ff,tt,tt,tt,ff,ff,tt,tt,tt,ff,tt,ff,ff,ff,ff] rfl rfl HT_ ?_;refine take_ (i:=5) (N:=some 75) (v:=?_) (a':=?_) #[tt,tt,tt,tt,tt,tt,tt,tt,tt,ff,ff,tt,tt,tt,ff,tt,ff,ff,ff,ff] rfl rfl (take_ofW HT_.out HW_.out (Z17)) (fun _ _ _ h=>h) (Or.inl ⟨Z83,?_⟩) hHeld ?_ ?_;rotate_left
                ·rintro w' ⟨s0,s1,s2,s3⟩;go_simp;(with_reducible rfl)
                rotate_left
                ·simp only [Act.put,aQ,zQ,sQ,i64_w,i32_w];rfl
                refine take_ (i:=9) (N:=some 79) (v:=?_) (a':=?_) #[tt,tt,tt,tt,tt,tt,tt,tt,tt,tt,ff,tt,tt,tt,ff,tt,ff,ff,ff,ff] rfl rfl (take_ofW HT_.out HW_.out (Z17)) (fun _ _ _ h=>h) (Or.inl ⟨Z83,?_⟩) hHeld ?_ ?_;rotate_left
                ·rintro w' ⟨s0,s1,s2,s3⟩;go_simp;(with_reducible rfl)
                rotate_left
                ·simp only [Act.put,aQ,zQ,sQ,i64_w,i32_w];rfl
                refine pu 10 (some 80) #[tt,tt,tt,tt,tt,tt,tt,tt,tt,tt,tt,tt,tt,tt,ff,tt,ff,ff,ff,ff] rfl rfl HT_ ?_;refine take_ (i:=14) (N:=some 84) (v:=?_) (a':=?_) #[tt,tt,tt,tt,tt,tt,tt,tt,tt,tt,tt,tt,tt,tt,tt,tt,ff,ff,ff,ff] rfl rfl (take_ofW HT_.out HW_.out (Z17)) (fun _ _ _ h=>h) (Or.inl ⟨Z83,?_⟩) hHeld ?_ ?_;rotate_left
                ·rintro w' ⟨s0,s1,s2,s3⟩;go_simp;(with_reducible rfl)
                rotate_left
                ·simp only [Act.put,aQ,zQ,sQ,i64_w,i32_w];rfl
                refine pu 16 (some 86) #[tt,tt,tt,tt,tt,tt,tt,tt,tt,tt,tt,tt,tt,tt,tt,tt,tt,ff,ff,ff] rfl rfl HT_ ?_;refine pu 17 (some 87) #[tt,tt,tt,tt,tt,tt,tt,tt,tt,tt,tt,tt,tt,tt,tt,tt,tt,tt,ff,ff] rfl rfl HT_ ?_;refine pu 18 (some 88) #[tt,tt,tt,tt,tt,tt,tt,tt,tt,tt,tt,tt,tt,tt,tt,tt,tt,tt,tt,ff] rfl rfl HT_ ?_;refine last_ (i:=19) (N:=none) #[tt,tt,tt,tt,tt,tt,tt,tt,tt,tt,tt,tt,tt,tt,tt,tt,tt,tt,tt,tt] rfl rfl (one_of HT_.out (Z17)) (Z19) (fun K hK=>?_);refine skip_ (w1:=?_) (Z83) rfl ?_ ?_;rotate_left
                ·go_simp;rfl
                refine hK.out _ _ ?_;clear hK K;refine done_ (done_of HT_.out (Z17)) ?_;(try go_wp2);(try simp only [← hl15_1]);go_roundg k1;(case measure=>have:=HK1.out;omega);(case rel=>exact ⟨(y153),(wrap64 (x67_1+1)),zt,H',⟨Z60 HK1.out⟩,⟨Z35 hl15_1 HQ30.out⟩,⟨by repeat (first|(with_reducible first|exact HK.out|apply Kept.alloc|apply Kept.drewN|apply Kept.drew|refine Kept.setCell ?_ HMgo28.out _)|exact HK.out)⟩,⟨zs HB.out⟩⟩)
               ·rw [if_neg c22] at H;have c22b0:decide (x67_1<(x.length:Int))=false:=decide_eq_false c22;have c22b1:decide (x67_1<(x15_1.length:Int))=false:=(by have h5_:=hl15_1;rw [show (x15_1.length:Int)=(x.length:Int) by omega];exact c22b0);clear c22;obtain ⟨t154,A31,H⟩:=bz H;obtain rfl:=Option.some.inj H;go_wp2_with (first|((with_reducible refine gate_callee (f:=105) rfl ?_);refine gm (some 91) Try.func105 #[.slice (some (⟨q.1,0,none⟩:Addr)) x15_1.length q.2] ?_;(with_reducible refine (impl_tidy.calls k1 (fun k_=>some k_=(.slice (some (⟨q.1,0,none⟩:Addr)) x15_1.length q.2:Value).ownBlock) (.slice (some (⟨q.1,0,none⟩:Addr)) x15_1.length q.2) x15_1 t154 w _ ?side1 ?side2 A31.out).mono ?_);(case side1=>exact (Z56 HB.out));(case side2=>exact Kd.R_tight rfl HO_15.out);rintro e w32 ⟨rfl,hy0,hb,hkp⟩;refine ⟨_,rfl,?_⟩;replace HK:=aM (Kept.then_ (S:=(fun k_=>P15_ k_)) (zp HK.out) hkp (fun k_ hs_=>(fun e_=>(HO_15.out.1 k_ e_.symm)) hs_));replace HO_15:=aM (Kd.R_reok rfl hy0 (fun k_ e_=>HO_15.out.1 k_ e_));replace HB:=aM (hb);(try clear hb);(try clear hkp);(try clear hy0)));go_roundg (qs.length-j);(case measure=>have:=HJ.out;omega);(case rel=>exact ⟨j+1,Z67,⟨Z47,Z47⟩,⟨HSTEP.out _ HK.out (Z88 HU.out hl15_1 HO_15.out)⟩,⟨HKS.out _ HK.out⟩,HB⟩)
           ·have hje:qs.length=j:=(Z60 HJ.out);clear hje;go_wp2;go_roundg (1);(case measure=>have:=HT.out;omega);(case rel=>exact ⟨1+1,by first|rfl|(simp;done)|go_num,⟨Z47,Z47⟩,⟨by have h1:=HRA.out;have h2:=HJ.out;rw [show ps1.length+j=off ps1.length qs.length (1+1) by show _=ps1.length+qs.length;omega] at h1;exact h1⟩,HK,HB⟩)
         ·obtain rfl:t=2:=(Z60 HT.out);go_wp2_with ((with_reducible refine gate_builtin (b:=.append) (xs:=#[.tmp 94,.tmp 96]) rfl ?_);at_builtin;go_loud (refine Kd.R_append (SK P.length) (w0:=w) w.heap.size rfl (.tmp 94) (.tmp 96) 22 23 (.slice none 0 0) 24 rfl Try.underlying22 info23 rfl (show (0:Nat)<1 by omega) (Z47) (.slice A8 qs.length c8) qs p [.slice A11 P.length c11] (fun _=>True) (fun _=>False) rfl rfl ?aP (fun _ h=>h.elim) (fun _ _=>trivial) ?aO ?aB ?aS ?aL ?_);(case aP=>exact (by show [_]=[_];rw [HPV.out]));(case aO=>exact Kd.R_mono HSOR.out (fun _ _=>trivial));(case aB=>exact HB.out);(case aS=>exact HB.out.size);(case aL=>omega);intro v1 w8 ho hb hg hat;have HO8:=aM ho;have HB8:=aM hb;have HG8:=aM hg;have HAT:=aM hat;clear ho hb hg hat);go_roundg (P.length-c);(case measure=>have:=HC.out;omega)
          case rel=>
           have hk8:Kept wr w8 (fun k_=>(Value.slice A8 qs.length c8).ownBlock=some k_):=⟨HG8.out.size,fun k_ hlt hne=>HG8.out.block k_ hlt (fun e_=>hne e_.symm)⟩;have hlz:=HZ.out.1
           have hyl:qs.length=Y.length:=by
            have h1:=HRA3.out.len;rw [List.length_append,List.length_append] at h1;have:=HPS3.out;omega
           have hfin:RowsAre wr w.heap.size P.length (ps1 ++ qs) (X2 ++ Y2):=by
            have h1:=HRA.out;rw [show off ps1.length qs.length 2=(X.eraseIdx ix ++ Y).length by rw [List.length_append,← HPS3.out,← hyl];rfl,mix_all _ _ hlz] at h1;exact h1
           have hapart:∀q_∈ps1 ++ qs,¬(Value.slice A8 qs.length c8).ownBlock=some q_.1:=fun q_ hq_ e_=>by
            obtain ⟨x_,hx_⟩:=hfin.mem hq_;exact HSOR.out.apart hx_ e_
           have hrpr:RowIs wr w.heap.size P.length p P:=HRP3.out.kept HK.out (fun ⟨p_,hp_,e_⟩=>HND3.out.2 p_ hp_ e_.symm);have hrp8:RowIs w8 w.heap.size P.length p P:=hrpr.kept hk8 (fun e_=>HSOR.out.apart hrpr e_);refine ⟨c+1,Z67,⟨Z47,Z47⟩,⟨ps1,qs ++ [p],X2,Y2 ++ [P],?_,HSPR.out.kept hk8 (fun k_ hk_ e_=>HVV3.out k_ hk_ e_),Kd.R_tight rfl HO8.out,?_,?_,HND4.out,?_,Z47,by simp;omega,HB8.out⟩⟩
           ·have:=HD.out;rw [show P.length-(c+1)=d by omega];exact HL.out
           ·rw [← List.append_assoc,← List.append_assoc];refine (hfin.kept hk8 hapart).append ⟨rfl,fun i_ p_ x_ hp_ hx_=>?_⟩;cases i_ with
            | zero=>
             simp only [List.getElem?_cons_zero,Option.some.injEq] at hp_ hx_;subst hp_;subst hx_;exact hrp8
            | succ i_=>simp at hp_
           ·rw [HPS3.out];exact HX2.out
           ·intro k_ hk_ e_;rcases HAT.out with h_ | ⟨b_,h_,hb_⟩
            ·rw [h_] at e_;exact HVV3.out k_ hk_ e_
            ·rw [h_] at e_;have h2_:=HSPR.out.lt k_ hk_;have h3_:=Option.some.inj e_;omega
      ·rw [if_neg htx] at hlp;cases hlp
    ·go_wp2;have hcn:n-c=0:=(Z47);rw [hcn] at hlp;obtain rfl:=Option.some.inj hlp;go_ret;exact ⟨_,by first|rfl|(simp;done)|(simp [*];done),to_S HSO.out (HRA.out.right HLEN.out) (by have h:=HND.out;rw [List.map_append] at h;exact (List.nodup_append.1 h).2.1),HB.out⟩
theorem slices_Clone_int_int_78.eql_nil (w:World) (t e:TypeId) (a:Option Addr) (n c:Nat) (h:Try.prog.underlying t=some (.slice e)) :
  (Go.binOp .eql t (.slice a n c) (.slice none 0 0)).run Try.prog w = .ok (.bool a.isNone) w:=Go.Lib.run_eql_slice_nil w t e a n c 0 0 h
def slices_Clone_int_int_78.f (l0:List (List Int)):Option ((List (List Int))):=(some (([]:List (List Int)):List (List Int))).bind fun y132=>(if y132.length+l0.length<5864062014805 then (some (y132 ++ l0)) else (none))
set_option maxHeartbeats 8000000 in
set_option maxRecDepth 100000 in
theorem slices_Clone_int_int_78.calls (P0_ : Nat → Prop) (A0 : Option Addr) (c0 : Nat) (l0 : List (List Int)) (r : List (List Int)) (w : World) (hs0 : Kd.V (Kd.slice 3 (Kd.int .i64)) 23 w w.heap.size (fun k_ => P0_ k_) (.slice A0 l0.length c0) l0) (h : slices_Clone_int_int_78.f l0 = some r) :
 Calls Try.prog 78 #[.slice A0 l0.length c0] w fun e w' => ∃ v0_ : Value, e = .returned (v0_) ∧ Kd.N (Kd.slice 3 (Kd.int .i64)) 23 w' w.heap.size (fun k_ => (P0_ k_ ∨ w.heap.size ≤ k_)) v0_ r ∧ Below w.heap.size w w' := by
 have HO0:=aM (show Kd.V (Kd.slice 3 (Kd.int .i64)) 23 w w.heap.size (fun k_=>(P0_ k_∨w.heap.size≤k_)) (.slice A0 l0.length c0) l0 from Kd.V_mono hs0 (fun k_ hk=>.inl hk));cases A0 with
 | none=>
  have hl:l0=[]:=by
   cases l0 with
   | nil=>rfl
   | cons a l=>
    obtain ⟨ad,e,_⟩:=(Kd.V_reads' HO0.out).2.2.2.2 (Z81);cases e
  subst hl;have hr:r=[]:=(by simpa [slices_Clone_int_int_78.f] using h.symm);subst hr;clear h;have heq:∀W:World,(Go.binOp .eql 22 (.slice none 0 c0) (.slice none 0 0)).run Try.prog W = .ok (.bool true) W:=fun W=>slices_Clone_int_int_78.eql_nil W 22 _ _ _ _ Try.underlying22;go_enter Try.func78,Try.ntmps78;go_wp2;go_ret;exact ⟨_,rfl,Kd.N_nil _ _ _ _ _,Below.refl _ _⟩
 | some ad0=>
  have heq:∀W:World,(Go.binOp .eql 22 (.slice (some ad0) l0.length c0) (.slice none 0 0)).run Try.prog W = .ok (.bool false) W:=fun W=>slices_Clone_int_int_78.eql_nil W 22 _ _ _ _ Try.underlying22;have HB:=aM (Below.refl w.heap.size w);have H:((some (([]:List (List Int)):List (List Int))).bind fun y132=>(if y132.length+l0.length<5864062014805 then (some (y132 ++ l0)) else (none)))=some r:=h;clear h;obtain ⟨y132,hy132⟩:∃y_:List (List Int),y_=(([]:List (List Int))):=⟨_,rfl⟩;replace H:(if y132.length+l0.length<5864062014805 then (some (y132 ++ l0)) else (none))=some r:=(Z2 hy132);have Ny132:=aM hy132;clear hy132;by_cases c2:y132.length+l0.length<5864062014805
  ·rw [if_pos c2] at H;have LMc2:=aM c2;clear c2;obtain ⟨y135,hy135⟩:∃y_:List (List Int),y_=(y132 ++ l0):=⟨_,rfl⟩;replace H:(some y135)=some r:=(Z2 hy135);have Ny135:=aM hy135;clear hy135;obtain rfl:=Option.some.inj H;go_enter Try.func78,Try.ntmps78;go_wp2_with (first|((with_reducible refine gate_dst (N:=5) rfl ?_);refine Kd.N_lit (Kd.slice 3 (Kd.int .i64)) _ 23 ?hg (N':=5) ?hd (xs:=([]:List (List Int))) (inner:=[]) (ok:=(fun k_=>(P0_ k_∨w.heap.size≤k_))) (okp:=(fun k_=>(P0_ k_∨w.heap.size≤k_))) ?hr ?hp (fun _ hk=>hk) ((show ∀k_,w.heap.size≤k_→(fun k_=>(P0_ k_∨w.heap.size≤k_)) k_ from fun k_ hk=>(.inr (Nat.le_trans (below_size (zb HB.out)) hk))) _ (Nat.le_refl _)) (Below.refl _ _) (Nat.le_refl _) (Z81) ?_;(case hd=>rfl);(case hg=>rfl);(case hr=>exact (Z9));(case hp=>exact (Reps.none _ _));intro v133 w3 ho4 hb hg_ hnew_;clear hg_ hnew_;(first|rw [← Ny132.out] at ho4|(simp only [Int.reduceToNat] at ho4;rw [← Ny132.out] at ho4));replace HO0:=aM (Kd.V_elder' (zv HO0.out) (Kd.N_base ho4) hb);have HO134:=aM (Kd.N_lower ho4 (below_size (zb HB.out)));replace HB:=aM (below_step (zb HB.out) hb);clear hb ho4)|((with_reducible refine gate_builtin (b:=.append) (xs:=#[.tmp 5,.tmp 6]) rfl ?_);at_builtin;refine Kd.N_append_rows (Kd.slice 3 (Kd.int .i64)) (w0:=w) w.heap.size rfl (.tmp 5) (.tmp 6) 22 23 (.slice none 0 0) 24 rfl Try.underlying22 info23 rfl (Z19) (Z47) v133 y132 l0 _ _ _ (fun k_=>(P0_ k_∨w.heap.size≤k_)) (fun k_=>((fun k_=>(P0_ k_∨w.heap.size≤k_))) k_∧some k_≠(v133:Value).ownBlock) rfl rfl ?aO ?aR (fun _ hk=>hk) ?aF ?aB ?aS ?aL ?_;(case aR=>exact (by skip;exact Kd.V_F (Kd.V_mono (ok':=(fun k_=>((fun k_=>(P0_ k_∨w.heap.size≤k_))) k_∧some k_≠(v133:Value).ownBlock)) (HO0.out) (fun k_ hk=>⟨hk.1,hk.2⟩))));(case aB=>exact (zb HB.out));(case aF=>exact (fun k_ hk=>(.inr (Nat.le_trans (below_size (zb HB.out)) hk))));(case aO=>exact (zn HO134.out));(case aS=>exact (below_size (zb HB.out)));(case aL=>have:=LMc2.out;omega);intro v136 w5 ho hb hg hat;rw [← Ny135.out] at ho;replace HO0:=aM (Kd.V_afterv (ok:=(fun k_=>(P0_ k_∨w.heap.size≤k_))) (zv HO0.out) hg hat);replace HB:=aM (hb);have HO137:=aM (ho);clear HO134 ho hb hg hat));go_ret;exact ⟨_,Z7,zn HO137.out,zb HB.out⟩
  ·rw [if_neg c2] at H;exact absurd H (Z81)
def impl_IsInSpan.j0:Nat→List (List Int)→List Int→Int→Bool→Option (Bool)
 | 0,_,_,_,_=>none
 | k+1,x0,x1,x5,x18=>if x18=true then (some false) else ((impl_reduceAny.f k x0 x5).bind fun t143=>((slices_Clone_int_int_78.f x0).bind fun t146=>(if t146.length<5864062014805 then ((impl_reduceAny.f k (t146 ++ [x1]) x5).bind fun t152=>(some ((t143.length:Int) == (t152.length:Int)))) else (none))))
def impl_IsInSpan.f (k:Nat) (l0:List (List Int)) (l1:List Int):Option (Bool):=(impl_IsMatrix.f k l0 (l1.length:Int)).bind fun t138=>(if t138=true then ((impl_IsMatrix.f k (([l1]:List (List Int))) (l1.length:Int)).bind fun t142=>(impl_IsInSpan.j0 k l0 l1 (l1.length:Int) (!t142))) else (impl_IsInSpan.j0 k l0 l1 (l1.length:Int) true))
set_option maxHeartbeats 8000000 in
set_option maxRecDepth 100000 in
theorem impl_IsInSpan.callsV (k : Nat) (P0_ : Nat → Prop) (A0 : Option Addr) (c0 : Nat) (l0 : List (List Int)) (P1_ : Nat → Prop) (A1 : Option Addr) (c1 : Nat) (l1 : List Int) (r : Bool) (w : World) (hs0 : Kd.V (Kd.slice 3 (Kd.int .i64)) 23 w w.heap.size (fun k_ => P0_ k_) (.slice A0 l0.length c0) l0) (hs1 : Kd.V (Kd.int .i64) 3 w w.heap.size (fun k_ => P1_ k_) (.slice A1 l1.length c1) l1) (h : impl_IsInSpan.f k l0 l1 = some r) :
 Calls Try.prog 30 #[.slice A0 l0.length c0, .slice A1 l1.length c1] w fun e w' => e = .returned (.bool r) ∧ Below w.heap.size w w' := by
 have HO0:=aM (show Kd.V (Kd.slice 3 (Kd.int .i64)) 23 w w.heap.size (fun k_=>((P0_ k_∨P1_ k_)∨w.heap.size≤k_)) (.slice A0 l0.length c0) l0 from Kd.V_mono hs0 (fun k_ hk=>.inl (.inl hk)));have HO1:=aM (show Kd.V (Kd.int .i64) 3 w w.heap.size (fun k_=>((P0_ k_∨P1_ k_)∨w.heap.size≤k_)) (.slice A1 l1.length c1) l1 from Kd.V_mono hs1 (fun k_ hk=>.inl (.inr hk)));have HB:=aM (Below.refl w.heap.size w);have H:((impl_IsMatrix.f k l0 (l1.length:Int)).bind fun t138=>(if t138=true then ((impl_IsMatrix.f k (([l1]:List (List Int))) (l1.length:Int)).bind fun t142=>(impl_IsInSpan.j0 k l0 l1 (l1.length:Int) (!t142))) else (impl_IsInSpan.j0 k l0 l1 (l1.length:Int) true)))=some r:=h;clear h;have HC3:=aM H;clear H;go_enter Try.func30,Try.ntmps30;go_upto_region 2 with (fail)
 go_cut [18] (fun v18 wc=>∃(kq:Nat) (x18_2:Bool),v18 = .bool x18_2∧Aside0 (impl_IsInSpan.j0 kq l0 l1 (l1.length:Int) x18_2=some r)∧Aside0 (kq≤k)∧Aside0 (Kd.V (Kd.slice 3 (Kd.int .i64)) 23 wc w.heap.size (fun k_=>((P0_ k_∨P1_ k_)∨w.heap.size≤k_)) (.slice A0 l0.length c0) l0)∧Aside0 (Kd.V (Kd.int .i64) 3 wc w.heap.size (fun k_=>((P0_ k_∨P1_ k_)∨w.heap.size≤k_)) (.slice A1 l1.length c1) l1)∧Aside0 (Below w.heap.size w wc))
 case first=>
  have H:=HC3.out;clear HC3;obtain ⟨t138,A4,H⟩:=bz H;by_cases c5:t138=true
  ·subst c5;replace H:=ifT H;obtain ⟨y139,hy139⟩:∃y_:List (List Int),y_=(([l1]:List (List Int))):=⟨_,rfl⟩;replace H:((impl_IsMatrix.f k y139 (l1.length:Int)).bind fun t142=>(impl_IsInSpan.j0 k l0 l1 (l1.length:Int) (!t142)))=some r:=(Z2 hy139);have Ny139:=aM hy139;clear hy139;obtain ⟨t142,A6,H⟩:=bz H;have H':=aM H;clear H;go_wp2_with ((with_reducible refine gate_callee (f:=40) rfl ?_);refine gm (some 10) Try.func40 #[.slice A0 l0.length c0,.int .i64 (l1.length:Int)] ?_;(with_reducible refine (impl_IsMatrix.calls k _ _ l0 (l1.length:Int) true _ ?side1 ?side2 A4.out).mono ?_);(case side1=>exact zc (Kd.V_reads' HO0.out).2.2);(case side2=>exact (Kd.V_reads' HO0.out).2.1);rintro e w' ⟨rfl,⟨nd,rfl⟩⟩;refine ⟨_,rfl,?_⟩);have A6b:=aM (show impl_IsMatrix.f k ([l1]:List (List Int)) (l1.length:Int)=some t142 by rw [← Ny139.out];exact A6.out);refine (impl_IsMatrix.calls k _ _ ([l1]:List (List Int)) (l1.length:Int) t142 _ ?sideA ?sideB A6b.out).mono ?_;(case sideA=>exact YtojkepidkmkmpaaRed.one_C (Kd.C_alloc (Kd.C_drewN (Kd.V_reads' HO1.out).2.2 _) _) (Kd.V_reads' HO1.out).2.1 (YtojkepidkmkmpaaRed.cell_new _ _ _));(case sideB=>exact Nat.le_refl _);rintro e w' ⟨rfl,⟨nd2_,rfl⟩⟩;go_wp2;go_meet;(case rel=>exact ⟨_,(!t142),zt,H',⟨Z40⟩,⟨Z53 HO0.out⟩,⟨Z53 HO1.out⟩,⟨zb HB.out⟩⟩)
  ·replace c5:=Bool.eq_false_iff.mpr c5;subst c5;replace H:=ifF H;have H':=aM H;clear H;go_wp2_with (first|((with_reducible refine gate_callee (f:=40) rfl ?_);refine gm (some 10) Try.func40 #[.slice A0 l0.length c0,.int .i64 (l1.length:Int)] ?_;(with_reducible refine (impl_IsMatrix.calls k _ _ l0 (l1.length:Int) false _ ?side1 ?side2 A4.out).mono ?_);(case side1=>exact zc (Kd.V_reads' HO0.out).2.2);(case side2=>exact (Kd.V_reads' HO0.out).2.1);rintro e w' ⟨rfl,⟨nd,rfl⟩⟩;refine ⟨_,rfl,?_⟩));go_meet;(case rel=>exact ⟨_,(true),zt,H',⟨Z40⟩,⟨zv HO0.out⟩,⟨zv HO1.out⟩,⟨zb HB.out⟩⟩)
 case rest=>
  clear HC3;(try clear c1);(try clear c5);obtain ⟨kq,x18_2,rfl,HA,HJ2,HO_0,HO_1,HB⟩:=hcut;cases kq with
  | zero=>exact absurd HA.out (by simp [impl_IsInSpan.j0])
  | succ kj2=>
   have H:=HA.out;clear HA;simp only [impl_IsInSpan.j0] at H;by_cases c10:x18_2=true
   ·subst c10;replace H:=ifT H;obtain rfl:=Option.some.inj H;go_wp2;go_ret;exact ⟨Z7,zb HB.out⟩
   ·replace c10:=Bool.eq_false_iff.mpr c10;subst c10;replace H:=ifF H;obtain ⟨t143,A11,H⟩:=bz H;obtain ⟨t146,A12,H⟩:=bz H;by_cases c13:t146.length<5864062014805
    ·rw [if_pos c13] at H;have LMc13:=aM c13;clear c13;obtain ⟨y149,hy149⟩:∃y_:List (List Int),y_=(t146 ++ [l1]):=⟨_,rfl⟩;replace H:((impl_reduceAny.f kj2 y149 (l1.length:Int)).bind fun t152=>(some ((t143.length:Int) == (t152.length:Int))))=some r:=(Z2 hy149);have Ny149:=aM hy149;clear hy149;obtain ⟨t152,A14,H⟩:=bz H;obtain rfl:=Option.some.inj H;go_wp2_with (first|((with_reducible refine gate_callee (f:=77) rfl ?_);refine gm (some 21) Try.func77 #[.slice A0 l0.length c0,.int .i64 (l1.length:Int)] ?_;(with_reducible refine (impl_reduceAny.calls kj2 _ _ l0 (l1.length:Int) t143 _ ?side1 ?side2 A11.out).mono ?_);(case side1=>exact zc (Kd.V_reads' HO_0.out).2.2);(case side2=>exact (Kd.V_reads' HO_0.out).2.1);rintro e w15 ⟨v144,rfl,ho0,hb⟩;refine ⟨_,rfl,?_⟩;replace HO_0:=aM (Kd.V_elder' (zv HO_0.out) (Z50 ho0) hb);replace HO_1:=aM (Kd.V_elder' (zv HO_1.out) (Z50 ho0) hb);have HO145:=aM (Kd.N_lower (Kd.N_mono (ok':=fun k_=>((P0_ k_∨P1_ k_)∨w.heap.size≤k_)) (Kd.S_N (Kd.S_bound ho0)) (fun k_ hk_=>(.inr (Nat.le_trans (below_size (zb HB.out)) hk_.2.1)))) (below_size (zb HB.out)));replace HB:=aM (below_step (zb HB.out) hb);(try clear hb);(try clear hk);(try clear ho0);obtain ⟨Ao16,co16,eo16⟩:=Kd.N_slice HO145.out;subst eo16)|((with_reducible refine gate_callee (f:=78) rfl ?_);refine gm (some 24) Try.func78 #[.slice A0 l0.length c0] ?_;(with_reducible refine (slices_Clone_int_int_78.calls (fun k_=>(((P0_ k_∨P1_ k_)∨w.heap.size≤k_)∧some k_≠(.slice Ao16 t143.length co16:Value).ownBlock)) _ _ l0 t146 _ ?side1 A12.out).mono ?_);(case side1=>exact HO_0.out);rintro e w17 ⟨v147,rfl,ho0,hb⟩;refine ⟨_,rfl,?_⟩;replace HO_0:=aM (Kd.V_elder' (zv HO_0.out) (Z50 ho0) hb);replace HO_1:=aM (Kd.V_elder' (zv HO_1.out) (Z50 ho0) hb);have HO148:=aM (Kd.N_lower (Kd.N_mono (ok':=fun k_=>((P0_ k_∨P1_ k_)∨w.heap.size≤k_)∧some k_≠(.slice Ao16 t143.length co16:Value).ownBlock) ho0 (fun k_ hk_=>⟨Or.elim hk_ (fun hs_=>hs_.1) (fun hn_=>(.inr (Nat.le_trans (below_size (zb HB.out)) hn_))),Or.elim hk_ (fun hs_=>hs_.2) (fun hn_=>(Kd.fresh' (Kd.N_lt (zn HO145.out)) k_ hn_))⟩)) (below_size (zb HB.out)));replace HO145:=aM (Kd.N_elder' (zn HO145.out) (Z50 ho0) hb);replace HB:=aM (below_step (zb HB.out) hb);(try clear hb);(try clear hk);(try clear ho0))|((with_reducible refine gate_builtin (b:=.append) (xs:=#[.tmp 24,.tmp 26]) rfl ?_);(try (refine gate_guard (Z83) ?_;dsimp only));at_builtin;refine Kd.N_append (Kd.slice 3 (Kd.int .i64)) (w0:=w) w.heap.size rfl (.tmp 24) (.tmp 26) 22 23 (.slice none 0 0) 24 rfl Try.underlying22 info23 rfl (Z19) (Z47) v147 t146 l1 [.slice A1 l1.length c1] (fun k_=>((P0_ k_∨P1_ k_)∨w.heap.size≤k_)∧some k_≠(.slice Ao16 t143.length co16:Value).ownBlock) (fun k_=>((fun k_=>((P0_ k_∨P1_ k_)∨w.heap.size≤k_)∧some k_≠(.slice Ao16 t143.length co16:Value).ownBlock)) k_∧some k_≠(v147:Value).ownBlock) rfl rfl ?aP (fun _ hk=>hk) ?aF ?aO ?aB ?aS ?aL ?_;(case aP=>exact (Kd.FK_slice_mk (Kd.V_reads' (Kd.V_mono (ok':=(fun k_=>((fun k_=>((P0_ k_∨P1_ k_)∨w.heap.size≤k_)∧some k_≠(.slice Ao16 t143.length co16:Value).ownBlock)) k_∧some k_≠(v147:Value).ownBlock)) (HO_1.out) (fun k_ hk=>⟨⟨hk.1.1,hk.1.2⟩,hk.2⟩))).2.1 (Kd.V_F (Kd.V_mono (ok':=(fun k_=>((fun k_=>((P0_ k_∨P1_ k_)∨w.heap.size≤k_)∧some k_≠(.slice Ao16 t143.length co16:Value).ownBlock)) k_∧some k_≠(v147:Value).ownBlock)) (HO_1.out) (fun k_ hk=>⟨⟨hk.1.1,hk.1.2⟩,hk.2⟩)))));(case aB=>exact (zb HB.out));(case aF=>exact (fun k_ hk=>⟨(.inr (Nat.le_trans (below_size (zb HB.out)) hk)),Kd.fresh' (Kd.N_lt (zn HO145.out)) k_ hk⟩));(case aO=>exact (zn HO148.out));(case aS=>exact (below_size (zb HB.out)));(case aL=>have:=LMc13.out;omega);intro v150 w18 ho hb hg hat;rw [← Ny149.out] at ho;replace HO_0:=aM (Kd.V_afterv (ok:=(fun k_=>((P0_ k_∨P1_ k_)∨w.heap.size≤k_)∧some k_≠(.slice Ao16 t143.length co16:Value).ownBlock)) (zv HO_0.out) hg hat);replace HO_1:=aM (Kd.V_afterv (ok:=(fun k_=>((P0_ k_∨P1_ k_)∨w.heap.size≤k_)∧some k_≠(.slice Ao16 t143.length co16:Value).ownBlock)) (zv HO_1.out) hg hat);replace HO145:=aM (Kd.N_afterv (ok:=(fun k_=>((P0_ k_∨P1_ k_)∨w.heap.size≤k_))) (zn HO145.out) hg hat);replace HB:=aM (hb);have HO151:=aM (ho);clear HO148 ho hb hg hat;obtain ⟨Ao19,co19,eo19⟩:=Kd.N_slice HO151.out;subst eo19)|((with_reducible refine gate_callee (f:=77) rfl ?_);refine gm (some 29) Try.func77 #[.slice Ao19 y149.length co19,.int .i64 (l1.length:Int)] ?_;(with_reducible refine (impl_reduceAny.calls kj2 _ _ y149 (l1.length:Int) t152 _ ?side1 ?side2 A14.out).mono ?_);(case side1=>exact zc (Kd.N_reads' HO151.out).2.2);(case side2=>exact (Kd.N_reads' HO151.out).2.1);rintro e w20 ⟨v153,rfl,ho0,hb⟩;refine ⟨_,rfl,?_⟩;replace HO_0:=aM (Kd.V_elder' (zv HO_0.out) (Z50 ho0) hb);replace HO_1:=aM (Kd.V_elder' (zv HO_1.out) (Z50 ho0) hb);have HO154:=aM (Kd.N_lower (Kd.N_mono (ok':=fun k_=>((P0_ k_∨P1_ k_)∨w.heap.size≤k_)∧some k_≠(.slice Ao16 t143.length co16:Value).ownBlock∧some k_≠(.slice Ao19 y149.length co19:Value).ownBlock) (Kd.S_N (Kd.S_bound ho0)) (fun k_ hk_=>⟨(.inr (Nat.le_trans (below_size (zb HB.out)) hk_.2.1)),(Kd.fresh' (Kd.N_lt (zn HO145.out)) k_ hk_.2.1),(Kd.fresh' (Kd.N_lt (zn HO151.out)) k_ hk_.2.1)⟩)) (below_size (zb HB.out)));replace HO145:=aM (Kd.N_elder' (zn HO145.out) (Z50 ho0) hb);replace HO151:=aM (Kd.N_elder' (zn HO151.out) (Z50 ho0) hb);replace HB:=aM (below_step (zb HB.out) hb);(try clear hb);(try clear hk);(try clear ho0);obtain ⟨Ao21,co21,eo21⟩:=Kd.N_slice HO154.out;subst eo21));go_ret;exact ⟨Z7,zb HB.out⟩
    ·rw [if_neg c13] at H;exact absurd H (Z81)
theorem impl_IsInSpan.calls (k:Nat) (A0:Option Addr) (c0:Nat) (l0:List (List Int)) (A1:Option Addr) (c1:Nat) (l1:List Int) (r:Bool) (w:World) (hr0:Kd.C (Kd.slice 3 (Kd.int .i64)) w A0 l0.length l0) (hc0:l0.length≤c0) (hr1:Kd.C (Kd.int .i64) w A1 l1.length l1) (hc1:l1.length≤c1) (h:impl_IsInSpan.f k l0 l1=some r) :
  Calls Try.prog 30 #[.slice A0 l0.length c0,.slice A1 l1.length c1] w fun e w'=>e = .returned (.bool r)∧Below w.heap.size w w':=
 impl_IsInSpan.callsV k (fun k_=>k_<w.heap.size) _ _ l0 (fun k_=>k_<w.heap.size) _ _ l1 r w (Kd.V_mk hc0 (Kd.C_F (Kd.heap_slice _ (Kd.heap_int _)) hr0)) (Kd.V_mk hc1 (Kd.C_F (Kd.heap_int _) hr1)) h
end Go.Proofs.Ytojkepidkmkmpaa.PFnSolved
end
section
namespace Go.Proofs.Ytojkepidkmkmpaa.PFnSolved
open Go.Proofs.YtojkepidkmkmpaaW.PrintWords.Aside0 renaming mk → aM
open List renaming setIfInBounds_toArray → aQ, set_cons_zero → zQ, set_cons_succ → sQ
open Bool renaming true → tt, false → ff
open Option renaming bind_eq_some_iff → bE

open Go.RowKit Go.Proofs.YtojkepidkmkmpaaW.PrintWords Go.Proofs.YtojkepidkmkmpaaW.PrintLast Go.Proofs.YtojkepidkmkmpaaW.PrintMore
attribute [local go_sem] max2_int min2_int max_two min_two max_three min_three max_four min_four
set_option linter.unusedVariables false
set_option linter.unusedSimpArgs false
def impl_IsSystem.f (k:Nat) (l0:List (List Int)) (l1:List Int) (a2:Int):Option (Bool):=(impl_IsMatrix.f k l0 a2).bind fun t141=>(if t141=true then (if (l1.length:Int)=(l0.length:Int) then ((impl_allIn.f k l1 (-1000) 1000).bind fun t142=>(some t142)) else (some false)) else (some false))
set_option maxHeartbeats 8000000 in
set_option maxRecDepth 100000 in
theorem impl_IsSystem.calls (k : Nat) (A0 : Option Addr) (c0 : Nat) (l0 : List (List Int)) (A1 : Option Addr) (c1 : Nat) (l1 : List Int) (a2 : Int) (r : Bool) (w : World) (hr0 : Kd.C (Kd.slice 3 (Kd.int .i64)) w A0 l0.length l0) (hc0 : l0.length ≤ c0) (hr1 : Kd.C (Kd.int .i64) w A1 l1.length l1) (hc1 : l1.length ≤ c1) (h : impl_IsSystem.f k l0 l1 a2 = some r) :
 Calls Try.prog 71 #[.slice A0 l0.length c0, .slice A1 l1.length c1, .int .i64 a2] w fun e w' => e = .returned (.bool r) ∧ Drawn0 w w' := by
 have HR0:=aM hr0;have HC0:=aM hc0;clear hr0 hc0;have HR1:=aM hr1;have HC1:=aM hc1;clear hr1 hc1;have H:((impl_IsMatrix.f k l0 a2).bind fun t141=>(if t141=true then (if (l1.length:Int)=(l0.length:Int) then ((impl_allIn.f k l1 (-1000) 1000).bind fun t142=>(some t142)) else (some false)) else (some false)))=some r:=h;clear h;obtain ⟨t141,A4,H⟩:=bz H;by_cases c5:t141=true
 ·subst c5;replace H:=ifT H;by_cases c6:(l1.length:Int)=(l0.length:Int)
  ·rw [if_pos c6] at H;have c6b0:((l1.length:Int) == (l0.length:Int))=true:=beq_iff_eq.mpr c6;have c6b1:((l1.length:Int) != (l0.length:Int))=false:=bne_eq_false_iff_eq.mpr c6;have c6b2:(l1.length == l0.length)=true:=(by first|simpa using c6|(simp at c6 ⊢;omega));clear c6;obtain ⟨t142,A7,H⟩:=bz H;obtain rfl:=Option.some.inj H;go_enter Try.func71,Try.ntmps71;go_wp2_with (first|((with_reducible refine gate_callee (f:=40) rfl ?_);refine gm (some 9) Try.func40 #[.slice A0 l0.length c0,.int .i64 a2] ?_;(with_reducible refine (impl_IsMatrix.calls k _ _ l0 a2 true _ ?side1 ?side2 A4.out).mono ?_);(case side1=>exact zc HR0.out);(case side2=>exact HC0.out);rintro e w' ⟨rfl,⟨nd,rfl⟩⟩;refine ⟨_,rfl,?_⟩)|(go_at_call 82;(with_reducible refine (impl_allIn.calls k _ _ l1 (-1000) 1000 t142 _ ?side1 ?side2 A7.out).mono ?_);(case side1=>exact zc HR1.out);(case side2=>exact HC1.out);rintro e w' ⟨rfl,⟨nd,rfl⟩⟩));go_ret;exact ⟨zt,zz⟩
  ·rw [if_neg c6] at H;have c6b0:((l1.length:Int) == (l0.length:Int))=false:=beq_eq_false_iff_ne.mpr c6;have c6b1:((l1.length:Int) != (l0.length:Int))=true:=bne_iff_ne.mpr c6;have c6b2:(l1.length == l0.length)=false:=(by first|simpa using c6|(simp at c6 ⊢;omega));obtain rfl:=Option.some.inj H;go_enter Try.func71,Try.ntmps71;go_wp2_with (first|((with_reducible refine gate_callee (f:=40) rfl ?_);refine gm (some 9) Try.func40 #[.slice A0 l0.length c0,.int .i64 a2] ?_;(with_reducible refine (impl_IsMatrix.calls k _ _ l0 a2 true _ ?side1 ?side2 A4.out).mono ?_);(case side1=>exact zc HR0.out);(case side2=>exact HC0.out);rintro e w' ⟨rfl,⟨nd,rfl⟩⟩;refine ⟨_,rfl,?_⟩));go_ret;exact ⟨zt,zz⟩
 ·replace c5:=Bool.eq_false_iff.mpr c5;subst c5;replace H:=ifF H;obtain rfl:=Option.some.inj H;go_enter Try.func71,Try.ntmps71;go_wp2_with (first|((with_reducible refine gate_callee (f:=40) rfl ?_);refine gm (some 9) Try.func40 #[.slice A0 l0.length c0,.int .i64 a2] ?_;(with_reducible refine (impl_IsMatrix.calls k _ _ l0 a2 false _ ?side1 ?side2 A4.out).mono ?_);(case side1=>exact zc HR0.out);(case side2=>exact HC0.out);rintro e w' ⟨rfl,⟨nd,rfl⟩⟩;refine ⟨_,rfl,?_⟩));go_ret;exact ⟨zt,zz⟩
mutual
def impl_solved.l0 : Nat → List Int → Int → List (List Int) → List (List Int) → Int → Int → Option ((List (List Int)) × Bool)
 | 0, _, _, _, _, _, _ => none
 | k + 1, x1, x2, x8, x19, x20, x21 => if x21 < x20 then (if 0 ≤ x21 then (if x21 < (x19.length : Int) then ((slices_Clone_int_int_95.f (rd_L1 x19 x21)).bind fun t145 => (if x21 < (x1.length : Int) then ((some (([rd x1 x21] : List Int) : List Int)).bind fun y149 => (if t145.length + y149.length < 17592186044416 then ((some (([(t145 ++ y149)] : List (List Int)) : List (List Int))).bind fun y155 => (if x8.length + y155.length < 5864062014805 then (impl_solved.l0 k x1 x2 (x8 ++ y155) x19 x20 (wrap64 (x21 + 1))) else (none))) else (none))) else (none))) else (none)) else (none)) else ((impl_reduceAny.f k x8 (wrap64 (x2 + 1))).bind fun t161 => (impl_solved.l1 k x2 t161 t161 (t161.length : Int) 0))
def impl_solved.l1 : Nat → Int → List (List Int) → List (List Int) → Int → Int → Option ((List (List Int)) × Bool)
 | 0, _, _, _, _, _ => none
 | k + 1, x2, x11, x42, x43, x44 => if x44 < x43 then (if 0 ≤ x44 then (if x44 < (x42.length : Int) then ((impl_lead.f k (rd_L1 x42 x44)).bind fun t165 => (if t165 = x2 then (some (([] : List (List Int)), false)) else (impl_solved.l1 k x2 x11 x42 x43 (wrap64 (x44 + 1))))) else (none)) else (none)) else (some (x11, true))
end
def impl_solved.f (k:Nat) (l0:List (List Int)) (l1:List Int) (a2:Int):Option ((List (List Int)) × Bool):=(impl_IsSystem.f k l0 l1 a2).bind fun t143=>(if t143=true then (impl_solved.l0 k l1 a2 ([]:List (List Int)) l0 (l0.length:Int) 0) else (some (([]:List (List Int)),false)))
def impl_solved.T7:Bool × List (List Nat × List Nat):=(true,[([],[]),([],[]),([1],[1]),([],[]),([],[]),([3,4],[3,4]),([5],[5]),([6],[6]),([2,7,2],[2,7]),([8],[8]),([0,9,8],[0,9]),([10,10,0,1,2,3,4,5,6,7,8,9,10],[0,10])])
def impl_solved.B7:List Nat:=[0,0,2,0,0,24,56,120,254,510,1023,2047]
theorem impl_solved.tab7:rtab .any (opsOf Try.f58 7)=impl_solved.T7:=by kernel_rfl
theorem impl_solved.bits7:waitsOk impl_solved.T7.2 impl_solved.B7=true:=by kernel_rfl
set_option maxHeartbeats 8000000 in
set_option maxRecDepth 100000 in
theorem impl_solved.calls (k : Nat) (A0 : Option Addr) (c0 : Nat) (l0 : List (List Int)) (A1 : Option Addr) (c1 : Nat) (l1 : List Int) (a2 : Int) (r1 : List (List Int)) (r2 : Bool) (w : World) (hr0 : Kd.C (Kd.slice 3 (Kd.int .i64)) w A0 l0.length l0) (hc0 : l0.length ≤ c0) (hr1 : Kd.C (Kd.int .i64) w A1 l1.length l1) (hc1 : l1.length ≤ c1) (h : impl_solved.f k l0 l1 a2 = some (r1, r2)) :
 Calls Try.prog 58 #[.slice A0 l0.length c0, .slice A1 l1.length c1, .int .i64 a2] w fun e w' => ∃ v0_ : Value, e = .returned (.tuple #[v0_, .bool r2]) ∧ Kd.N (Kd.slice 3 (Kd.int .i64)) 23 w' w.heap.size (fun k_ => (w.heap.size ≤ k_)) v0_ r1 ∧ Below w.heap.size w w' := by
 have HR0:=aM hr0;have HC0:=aM hc0;clear hr0 hc0;have HR1:=aM hr1;have HC1:=aM hc1;clear hr1 hc1;have HB:=aM (Below.refl w.heap.size w);have H:((impl_IsSystem.f k l0 l1 a2).bind fun t143=>(if t143=true then (impl_solved.l0 k l1 a2 ([]:List (List Int)) l0 (l0.length:Int) 0) else (some (([]:List (List Int)),false))))=some (r1,r2):=h;clear h;obtain ⟨t143,A4,H⟩:=bz H;by_cases c5:t143=true
 ·subst c5;replace H:=ifT H;have H':=aM H;clear H;go_enter Try.func58,Try.ntmps58;go_wp2_with (first|((with_reducible refine gate_callee (f:=71) rfl ?_);refine gm (some 17) Try.func71 #[.slice A0 l0.length c0,.slice A1 l1.length c1,.int .i64 a2] ?_;(with_reducible refine (impl_IsSystem.calls k _ _ l0 _ _ l1 a2 true _ ?side1 ?side2 ?side3 ?side4 A4.out).mono ?_);(case side1=>exact zc HR0.out);(case side2=>exact HC0.out);(case side3=>exact zc HR1.out);(case side4=>exact HC1.out);rintro e w' ⟨rfl,⟨nd,rfl⟩⟩;refine ⟨_,rfl,?_⟩));go_loopg [8,21] k (fun kq v8 v21 w'=>∃(x8_1:List (List Int)) (x21_1:Int),v21 = .int .i64 x21_1∧Aside0 (impl_solved.l0 kq l1 a2 x8_1 l0 (l0.length:Int) x21_1=some (r1,r2))∧Aside0 (kq≤k)∧Aside0 (Kd.N (Kd.slice 3 (Kd.int .i64)) 23 w' w.heap.size (fun k_=>(w.heap.size≤k_)) v8 x8_1)∧Aside0 (Below w.heap.size w w'));(case atStart=>exact ⟨(([]:List (List Int))),(0),zt,H',⟨Nat.le_refl _⟩,⟨Z54⟩,⟨zb HB.out⟩⟩)
  case round=>
   clear H';(try clear c1);(try clear c5);obtain ⟨x8_1,x21_1,rfl,HA,HK1,HO_8,HB⟩:=hrel;cases gk with
   | zero=>exact absurd HA.out (by simp [impl_solved.l0])
   | succ k1=>
    have H:=HA.out;clear HA;simp only [impl_solved.l0] at H;by_cases c6:x21_1<(l0.length:Int)
    ·rw [if_pos c6] at H;have c6b0:decide (x21_1<(l0.length:Int))=true:=decide_eq_true c6;clear c6;obtain ⟨c7b0,H⟩:=iN H;obtain ⟨c8b0,H⟩:=iN H;obtain ⟨t145,A9,H⟩:=bz H;obtain ⟨c10b0,H⟩:=iN H;obtain ⟨y149,hy149⟩:∃y_:List Int,y_=(([rd l1 x21_1]:List Int)):=⟨_,rfl⟩;replace H:(if t145.length+y149.length<17592186044416 then ((some (([(t145 ++ y149)]:List (List Int)):List (List Int))).bind fun y155=>(if x8_1.length+y155.length<5864062014805 then (impl_solved.l0 k1 l1 a2 (x8_1 ++ y155) l0 (l0.length:Int) (wrap64 (x21_1+1))) else (none))) else (none))=some (r1,r2):=(Z2 hy149);have Ny149:=aM hy149;clear hy149;by_cases c11:t145.length+y149.length<17592186044416
     ·rw [if_pos c11] at H;have LMc11:=aM c11;clear c11;obtain ⟨y152,hy152⟩:∃y_:List Int,y_=(t145 ++ y149):=⟨_,rfl⟩;replace H:((some (([y152]:List (List Int)):List (List Int))).bind fun y155=>(if x8_1.length+y155.length<5864062014805 then (impl_solved.l0 k1 l1 a2 (x8_1 ++ y155) l0 (l0.length:Int) (wrap64 (x21_1+1))) else (none)))=some (r1,r2):=(Z2 hy152);have Ny152:=aM hy152;clear hy152;obtain ⟨y155,hy155⟩:∃y_:List (List Int),y_=(([y152]:List (List Int))):=⟨_,rfl⟩;replace H:(if x8_1.length+y155.length<5864062014805 then (impl_solved.l0 k1 l1 a2 (x8_1 ++ y155) l0 (l0.length:Int) (wrap64 (x21_1+1))) else (none))=some (r1,r2):=(Z2 hy155);have Ny155:=aM hy155;clear hy155;by_cases c12:x8_1.length+y155.length<5864062014805
      ·rw [if_pos c12] at H;have LMc12:=aM c12;clear c12;obtain ⟨y158,hy158⟩:∃y_:List (List Int),y_=(x8_1 ++ y155):=⟨_,rfl⟩;replace H:(impl_solved.l0 k1 l1 a2 y158 l0 (l0.length:Int) (wrap64 (x21_1+1)))=some (r1,r2):=(Z2 hy158);have Ny158:=aM hy158;clear hy158;have H':=aM H;clear H;have p144:0≤(x21_1:Int):=zd;have q144:x21_1<(l0.length:Int):=zd;obtain ⟨ad144,A144_0,c144_0,e144,hx144_0,hl144_0,hi144_0⟩:=at_L1 HR0.out x21_1 p144 q144;cases e144;replace hx144_0:=zx HB.out hx144_0;have HR144_0:=aM hi144_0;have HC144_0:=aM hl144_0;clear hi144_0 hl144_0;replace p144:=eq_true p144;replace q144:=eq_true q144;obtain ⟨Ao13,co13,eo13⟩:=Kd.N_slice HO_8.out;subst eo13;(try go_wp2);replace HO_8:=aM (Kd.N_drew HO_8.out);replace HB:=aM (below_drew1 HB.out);have p148:0≤(x21_1:Int):=zd;have q148:x21_1<(l1.length:Int):=zd;obtain ⟨ad148,e148,hx148_0⟩:=Kd.at_int HR1.out x21_1 p148 q148;have hw148_0:=hx148_0;cases e148;replace hx148_0:=zx HB.out hx148_0;replace p148:=eq_true p148;replace q148:=eq_true q148;refine start_ (n:=12) (S:=fun w'=>w'.cell? (ad148.add (x21_1).toNat)=some (.int .i64 (rd l1 x21_1))) (ds:=[]) #[ff,ff,ff,ff,ff,ff,ff,ff,ff,ff,ff,ff] (Z17) rfl rfl ((zx HB.out hw148_0)) (fun hHeld=>?_);refine with_tabW impl_solved.tab7 impl_solved.bits7 (fun HT_ HW_=>?_);generalize wr.drew=w14 at HO_8 HB hx148_0 hHeld ⊢;refine pu 0 (some 26) #[tt,ff,ff,ff,ff,ff,ff,ff,ff,ff,ff,ff] rfl rfl HT_ ?_;refine pu 1 (some 27) #[tt,tt,ff,ff,ff,ff,ff,ff,ff,ff,ff,ff] rfl rfl HT_ ?_;refine pu 3 (some 29) #[tt,tt,ff,tt,ff,ff,ff,ff,ff,ff,ff,ff] rfl rfl HT_ ?_;refine pu 4 (some 30) #[tt,tt,ff,tt,tt,ff,ff,ff,ff,ff,ff,ff] rfl rfl HT_ ?_;refine pu 5 (some 31) #[tt,tt,ff,tt,tt,tt,ff,ff,ff,ff,ff,ff] rfl rfl HT_ ?_;refine take_ (i:=6) (N:=some 32) (v:=?_) (a':=?_) #[tt,tt,ff,tt,tt,tt,tt,ff,ff,ff,ff,ff] rfl rfl (take_ofW HT_.out HW_.out (Z17)) (fun _ _ _ h=>h) (Or.inl ⟨Z83,?_⟩) hHeld ?_ ?_;rotate_left
       ·intro w' s0;go_simp;(with_reducible rfl)
       rotate_left
       ·simp only [Act.put,aQ,zQ,sQ,i64_w,i32_w];rfl
       refine join_ (σ:=Value × Value) 4 #[tt,tt,tt,tt,tt,tt,tt,tt,ff,ff,ff,ff] (fun s_=>[(28,s_.1),(33,s_.2)]) (fun s_ w'=>(w'.cell? (ad148.add (x21_1).toNat)=some (.int .i64 (rd l1 x21_1)))∧(Kd.R (Kd.int .i64) 3 w' w.heap.size (fun k_=>(w.heap.size≤k_)∧some k_≠(s_.2:Value).ownBlock) s_.1 t145)∧(Kd.R (Kd.int .i64) 3 w' w.heap.size (fun k_=>(w.heap.size≤k_)∧some k_≠(s_.1:Value).ownBlock) s_.2 y149)∧(Kd.N (Kd.slice 3 (Kd.int .i64)) 23 w' w.heap.size (fun k_=>(w.heap.size≤k_)∧some k_≠(s_.1:Value).ownBlock∧some k_≠(s_.2:Value).ownBlock) (.slice Ao13 x8_1.length co13) x8_1)∧(Below w.heap.size w w')) ?_ ?_;rotate_left
       ·intro hCont;refine two_ (i:=2) (j:=7) (Ni:=some 28) (Nj:=some 33) #[tt,tt,tt,tt,tt,tt,tt,ff,ff,ff,ff,ff] #[tt,tt,ff,tt,tt,tt,tt,tt,ff,ff,ff,ff] rfl rfl rfl rfl (two_of HT_.out (Z17)) (Z19) (Z19) (fun K hK=>?_) (fun K hK=>?_)
        ·skip
         refine gs Try.func95 #[.slice A144_0 (rd_L1 l0 x21_1).length c144_0] ?_;(with_reducible refine (slices_Clone_int_int_95.calls _ _ (rd_L1 l0 x21_1) t145 _ ?side1 ?side2 A9.out).mono ?_);(case side1=>exact zc (Kd.C_below HR144_0.out HB.out));(case side2=>exact HC144_0.out);rintro e w15 ⟨v146,rfl,ho0,hb⟩;refine ⟨_,rfl,?_⟩;replace HO_8:=aM (Kd.N_elder' (zn HO_8.out) (Kd.R_base ho0) hb);have HO147:=aM (Kd.R_lower (Kd.R_newM (M:=fun k_=>(w.heap.size≤k_)) ho0 (below_size (zb HB.out)) (fun k_ h_=>h_)) (below_size (zb HB.out)));replace HB:=aM (below_step (zb HB.out) hb);(try clear hb);(try clear ho0);refine hK.out _ _ ((zx HB.out hw148_0)) (fun hHeld=>?_);clear hK K;refine norm_ (a':=?_) ?_ ?_;rotate_left
         ·show Act.put _ (some 28) _=_;simp only [Act.put,aQ,zQ,sQ,i64_w,i32_w];rfl
         refine one_ (i:=7) (N:=some 33) #[tt,tt,tt,tt,tt,tt,tt,tt,ff,ff,ff,ff] rfl rfl (one_of HT_.out (Z17)) (Z19) (fun K hK=>?_);refine Kd.R_lit_step (Kd.int .i64) _ 3 ?hg (N:=33) ?hd (xs:=([rd l1 x21_1]:List Int)) (inner:=[.int .i64 (rd l1 x21_1)]) (ok:=fun _=>True) (okp:=fun _=>True) ?hr ?hp (fun _ hk=>hk) trivial (Below.refl _ _) (Nat.le_refl _) (Z81) ?_;(case hd=>rfl);(case hg=>rfl);(case hr=>exact (Z9));(case hp=>exact (Reps.one (show Kd.M (Kd.int .i64) _ _ _ (rd l1 x21_1) [.int .i64 (rd l1 x21_1)] from rfl) (Reps.none _ _)));intro v150 w16 ho17 hb hg_ hnew_;clear hg_ hnew_;(first|rw [← Ny149.out] at ho17|(simp only [Int.reduceToNat] at ho17;rw [← Ny149.out] at ho17));replace HO_8:=aM (Kd.N_elder' (zn HO_8.out) (Kd.R_base ho17) hb);have HO151:=aM (Kd.R_lower (Kd.R_new' (Kd.R_newM (M:=fun k_=>(w.heap.size≤k_)) ho17 (below_size (zb HB.out)) (fun k_ h_=>h_)) (Kd.R_lt (zr HO147.out))) (below_size (zb HB.out)));replace HO147:=aM (Kd.R_elder' (zr HO147.out) (Kd.R_base ho17) hb);replace HB:=aM (below_step (zb HB.out) hb);clear hb ho17;refine hK.out _ _ ((zx HB.out hw148_0)) (fun hHeld=>?_);clear hK K;refine norm_ (a':=?_) ?_ ?_;rotate_left
         ·show Act.put _ (some 33) _=_;simp only [Act.put,aQ,zQ,sQ,i64_w,i32_w];rfl
         exact norm_ (Z41) (hCont (v146,v150) _ ⟨hHeld,(Z23 HO147.out),(Z23 HO151.out),(Z86 HO_8.out),(zb HB.out)⟩)
        ·skip
         refine Kd.R_lit_step (Kd.int .i64) _ 3 ?hg (N:=33) ?hd (xs:=([rd l1 x21_1]:List Int)) (inner:=[.int .i64 (rd l1 x21_1)]) (ok:=fun _=>True) (okp:=fun _=>True) ?hr ?hp (fun _ hk=>hk) trivial (Below.refl _ _) (Nat.le_refl _) (Z81) ?_;(case hd=>rfl);(case hg=>rfl);(case hr=>exact (Z9));(case hp=>exact (Reps.one (show Kd.M (Kd.int .i64) _ _ _ (rd l1 x21_1) [.int .i64 (rd l1 x21_1)] from rfl) (Reps.none _ _)));intro v150 w15 ho16 hb hg_ hnew_;clear hg_ hnew_;(first|rw [← Ny149.out] at ho16|(simp only [Int.reduceToNat] at ho16;rw [← Ny149.out] at ho16));replace HO_8:=aM (Kd.N_elder' (zn HO_8.out) (Kd.R_base ho16) hb);have HO151:=aM (Kd.R_lower (Kd.R_newM (M:=fun k_=>(w.heap.size≤k_)) ho16 (below_size (zb HB.out)) (fun k_ h_=>h_)) (below_size (zb HB.out)));replace HB:=aM (below_step (zb HB.out) hb);clear hb ho16;refine hK.out _ _ ((zx HB.out hw148_0)) (fun hHeld=>?_);clear hK K;refine norm_ (a':=?_) ?_ ?_;rotate_left
         ·show Act.put _ (some 33) _=_;simp only [Act.put,aQ,zQ,sQ,i64_w,i32_w];rfl
         refine one_ (i:=2) (N:=some 28) #[tt,tt,tt,tt,tt,tt,tt,tt,ff,ff,ff,ff] rfl rfl (one_of HT_.out (Z17)) (Z19) (fun K hK=>?_);refine gs Try.func95 #[.slice A144_0 (rd_L1 l0 x21_1).length c144_0] ?_;(with_reducible refine (slices_Clone_int_int_95.calls _ _ (rd_L1 l0 x21_1) t145 _ ?side1 ?side2 A9.out).mono ?_);(case side1=>exact zc (Kd.C_below HR144_0.out HB.out));(case side2=>exact HC144_0.out);rintro e w17 ⟨v146,rfl,ho0,hb⟩;refine ⟨_,rfl,?_⟩;replace HO_8:=aM (Kd.N_elder' (zn HO_8.out) (Kd.R_base ho0) hb);have HO147:=aM (Kd.R_lower (Kd.R_new' (Kd.R_newM (M:=fun k_=>(w.heap.size≤k_)) ho0 (below_size (zb HB.out)) (fun k_ h_=>h_)) (Kd.R_lt (zr HO151.out))) (below_size (zb HB.out)));replace HO151:=aM (Kd.R_elder' (zr HO151.out) (Kd.R_base ho0) hb);replace HB:=aM (below_step (zb HB.out) hb);(try clear hb);(try clear hk);(try clear ho0);refine hK.out _ _ ((zx HB.out hw148_0)) (fun hHeld=>?_);clear hK K;refine norm_ (a':=?_) ?_ ?_;rotate_left
         ·show Act.put _ (some 28) _=_;simp only [Act.put,aQ,zQ,sQ,i64_w,i32_w];rfl
         exact norm_ (Z41) (hCont (v146,v150) _ ⟨hHeld,(Z23 HO147.out),(Z23 HO151.out),(Z66 HO_8.out),(zb HB.out)⟩)
       rintro ⟨v146,v150⟩ w18 ⟨hS_,h0_,h1_,h2_,h3_⟩;have HO147:Aside0 (Kd.R (Kd.int .i64) 3 w18 w.heap.size (fun k_=>(w.heap.size≤k_)∧some k_≠(v150:Value).ownBlock) v146 t145):=⟨h0_⟩;have HO151:Aside0 (Kd.R (Kd.int .i64) 3 w18 w.heap.size (fun k_=>(w.heap.size≤k_)∧some k_≠(v146:Value).ownBlock) v150 y149):=⟨h1_⟩;replace HO_8:Aside0 (Kd.N (Kd.slice 3 (Kd.int .i64)) 23 w18 w.heap.size (fun k_=>(w.heap.size≤k_)∧some k_≠(v146:Value).ownBlock∧some k_≠(v150:Value).ownBlock) (.slice Ao13 x8_1.length co13) x8_1):=⟨h2_⟩;replace HB:Aside0 (Below w.heap.size w w18):=⟨h3_⟩;clear h0_ h1_ h2_ h3_;have hHeld:w18.cell? (ad148.add (x21_1).toNat)=some (.int .i64 (rd l1 x21_1)):=hS_;obtain ⟨Ao20,co20,eo20⟩:=Kd.R_slice HO151.out;(first|subst eo20|(injection eo20 with f1_ f2_ f3_;have f4_:=f1_.symm;have f5_:=f3_.symm;clear f1_ f2_ f3_;subst f4_;subst f5_));refine norm_ (a':=?_) ?_ ?_;rotate_left
       ·simp only [putAll,Act.put,aQ,zQ,sQ];rfl
       refine one_ (i:=8) (N:=some 34) #[tt,tt,tt,tt,tt,tt,tt,tt,tt,ff,ff,ff] rfl rfl (one_of HT_.out (Z17)) (Z19) (fun K hK=>?_);refine Kd.R_append_rows_step (Kd.int .i64) (w0:=w) w.heap.size (Z83) (.tmp 28) (.tmp 33) 23 3 (.int .i64 0) 8 rfl Try.underlying23 info3 rfl (Z19) (Z47) v146 t145 y149 _ _ _ (fun k_=>(w.heap.size≤k_)∧some k_≠(.slice Ao20 y149.length co20:Value).ownBlock) (fun _=>False) rfl rfl ?aO ?aR (fun _ _ h=>h) (fun _ h=>h.elim) ?aF ?aB ?aS ?aL ?_;(case aR=>exact zc (Kd.R_reads' HO151.out).2.2);(case aB=>exact (zb HB.out));(case aF=>exact (fun k_ hk=>⟨(Nat.le_trans (below_size (zb HB.out)) hk),Kd.fresh' (Kd.R_lt (zr HO151.out)) k_ hk⟩));(case aO=>exact (zr HO147.out));(case aS=>exact (below_size (zb HB.out)));(case aL=>have:=LMc11.out;omega);intro v153 w19 ho hb hg hat;rw [← Ny152.out] at ho;replace HO_8:=aM (Kd.N_afterv (ok:=(fun k_=>(w.heap.size≤k_)∧some k_≠(.slice Ao20 y149.length co20:Value).ownBlock)) (Z51 HO_8.out) hg hat);replace HO151:=aM (Kd.R_after (ok:=(fun k_=>(w.heap.size≤k_))) (zr HO151.out) hg hat);replace HB:=aM (hb);have HO154:=aM (ho);clear HO147 ho hb hg hat;obtain ⟨Ao21,co21,eo21⟩:=Kd.R_slice HO154.out;(first|subst eo21|(injection eo21 with f1_ f2_ f3_;have f4_:=f1_.symm;have f5_:=f3_.symm;clear f1_ f2_ f3_;subst f4_;subst f5_));refine hK.out _ _ ((zx HB.out hw148_0)) (fun hHeld=>?_);clear hK K;refine norm_ (a':=?_) ?_ ?_;rotate_left
       ·show Act.put _ (some 34) _=_;simp only [Act.put,aQ,zQ,sQ,i64_w,i32_w];rfl
       refine one_ (i:=9) (N:=some 35) #[tt,tt,tt,tt,tt,tt,tt,tt,tt,tt,ff,ff] rfl rfl (one_of HT_.out (Z17)) (Z19) (fun K hK=>?_);refine Kd.N_lit_step (Kd.slice 3 (Kd.int .i64)) _ 23 ?hg (N':=35) ?hd (xs:=([y152]:List (List Int))) (inner:=[.slice Ao21 y152.length co21]) (ok:=(fun k_=>(w.heap.size≤k_)∧some k_≠(.slice Ao13 x8_1.length co13:Value).ownBlock∧some k_≠(.slice Ao20 y149.length co20:Value).ownBlock)) (okp:=(fun k_=>(w.heap.size≤k_)∧some k_≠(.slice Ao13 x8_1.length co13:Value).ownBlock∧some k_≠(.slice Ao20 y149.length co20:Value).ownBlock)) ?hr ?hp (fun _ hk=>hk) ((show ∀k_,w19.heap.size≤k_→(fun k_=>(w.heap.size≤k_)∧some k_≠(.slice Ao13 x8_1.length co13:Value).ownBlock∧some k_≠(.slice Ao20 y149.length co20:Value).ownBlock) k_ from fun k_ hk=>⟨(Nat.le_trans (below_size (zb HB.out)) hk),Kd.fresh' (Kd.N_lt (zn HO_8.out)) k_ hk,Kd.fresh' (Kd.R_lt (zr HO151.out)) k_ hk⟩) _ (Nat.le_refl _)) (Below.refl _ _) (Nat.le_refl _) (Z81) ?_;(case hd=>rfl);(case hg=>rfl);(case hr=>exact (Z9));(case hp=>exact (Reps.one (show Kd.FK (Kd.slice 3 (Kd.int .i64)) _ _ y152 [.slice Ao21 y152.length co21] from (Kd.FK_slice_mk (Kd.R_reads' (Kd.R_mono (ok':=(fun k_=>(w.heap.size≤k_)∧some k_≠(.slice Ao13 x8_1.length co13:Value).ownBlock∧some k_≠(.slice Ao20 y149.length co20:Value).ownBlock)) (Kd.R_apart' (HO154.out) (Kd.N_typed HO_8.out) (Z19)) (fun k_ hk=>⟨hk.1.1,⟨hk.2,hk.1.2⟩⟩))).2.1 (Kd.R_F (Kd.R_mono (ok':=(fun k_=>(w.heap.size≤k_)∧some k_≠(.slice Ao13 x8_1.length co13:Value).ownBlock∧some k_≠(.slice Ao20 y149.length co20:Value).ownBlock)) (Kd.R_apart' (HO154.out) (Kd.N_typed HO_8.out) (Z19)) (fun k_ hk=>⟨hk.1.1,⟨hk.2,hk.1.2⟩⟩))))) (Reps.none _ _)));intro v156 w22 ho23 hb hg_ hnew_;clear hg_ hnew_;(first|rw [← Ny155.out] at ho23|(simp only [Int.reduceToNat] at ho23;rw [← Ny155.out] at ho23));replace HO_8:=aM (Kd.N_elder' (zn HO_8.out) (Kd.N_base ho23) hb);replace HO151:=aM (Kd.R_below (zr HO151.out) hb);have HO157:=aM (Kd.N_lower ho23 (below_size (zb HB.out)));replace HB:=aM (below_step (zb HB.out) hb);clear HO154 hb ho23;obtain ⟨Ao25,co25,eo25⟩:=Kd.N_slice HO157.out;(first|subst eo25|(injection eo25 with f1_ f2_ f3_;have f4_:=f1_.symm;have f5_:=f3_.symm;clear f1_ f2_ f3_;subst f4_;subst f5_));refine hK.out _ _ ((zx HB.out hw148_0)) (fun hHeld=>?_);clear hK K;refine norm_ (a':=?_) ?_ ?_;rotate_left
       ·show Act.put _ (some 35) _=_;simp only [Act.put,aQ,zQ,sQ,i64_w,i32_w];rfl
       refine one_ (i:=10) (N:=some 36) #[tt,tt,tt,tt,tt,tt,tt,tt,tt,tt,tt,ff] rfl rfl (one_of HT_.out (Z17)) (Z19) (fun K hK=>?_);refine Kd.N_append_rows_step (Kd.slice 3 (Kd.int .i64)) (w0:=w) w.heap.size (Z83) (.tmp 26) (.tmp 35) 22 23 (.slice none 0 0) 24 rfl Try.underlying22 info23 rfl (Z19) (Z47) (.slice Ao13 x8_1.length co13) x8_1 y155 _ _ _ (fun k_=>(w.heap.size≤k_)∧some k_≠(.slice Ao20 y149.length co20:Value).ownBlock) (fun k_=>((fun k_=>(w.heap.size≤k_)∧some k_≠(.slice Ao20 y149.length co20:Value).ownBlock)) k_∧some k_≠(.slice Ao13 x8_1.length co13:Value).ownBlock) rfl rfl ?aO ?aR (fun _ hk=>hk) ?aF ?aB ?aS ?aL ?_;(case aR=>exact (by skip;exact Kd.N_F (Kd.N_mono (ok':=(fun k_=>((fun k_=>(w.heap.size≤k_)∧some k_≠(.slice Ao20 y149.length co20:Value).ownBlock)) k_∧some k_≠(.slice Ao13 x8_1.length co13:Value).ownBlock)) (HO157.out) (fun k_ hk=>⟨⟨hk.1,hk.2.2⟩,hk.2.1⟩))));(case aB=>exact (zb HB.out));(case aF=>exact (fun k_ hk=>⟨(Nat.le_trans (below_size (zb HB.out)) hk),Kd.fresh' (Kd.R_lt (zr HO151.out)) k_ hk⟩));(case aO=>exact (by (with_reducible repeat (first|apply Kd.N_alloc|apply Kd.N_drewN|apply Kd.N_drew));exact Kd.N_mono HO_8.out (fun _ hk=>⟨hk.1.1.1,hk.1.1.2⟩)));(case aS=>exact (below_size (zb HB.out)));(case aL=>have:=LMc12.out;omega);intro v159 w24 ho hb hg hat;rw [← Ny158.out] at ho;replace HO151:=aM (Kd.R_over' (zr HO151.out) (Kd.N_typed (zn HO_8.out)) (Z19) hg);replace HO157:=aM (Kd.N_afterv (ok:=(fun k_=>(w.heap.size≤k_)∧some k_≠(.slice Ao20 y149.length co20:Value).ownBlock)) (Z51 HO157.out) hg hat);replace HB:=aM (hb);have HO160:=aM (ho);clear HO_8 ho hb hg hat;refine hK.out _ _ ((zx HB.out hw148_0)) (fun hHeld=>?_);clear hK K;refine norm_ (a':=?_) ?_ ?_;rotate_left
       ·show Act.put _ (some 36) _=_;simp only [Act.put,aQ,zQ,sQ,i64_w,i32_w];rfl
       refine pu 11 (some 8) #[tt,tt,tt,tt,tt,tt,tt,tt,tt,tt,tt,tt] rfl rfl HT_ ?_;refine done_ (done_of HT_.out (Z17)) ?_;(try go_wp2);go_roundg k1;(case measure=>have:=HK1.out;omega);(case rel=>exact ⟨(y158),(wrap64 (x21_1+1)),zt,H',⟨Z60 HK1.out⟩,⟨Z38 HO160.out⟩,⟨zb HB.out⟩⟩)
      ·rw [if_neg c12] at H;exact absurd H (Z81)
     ·rw [if_neg c11] at H;exact absurd H (Z81)
    ·rw [if_neg c6] at H;have c6b0:decide (x21_1<(l0.length:Int))=false:=decide_eq_false c6;clear c6;obtain ⟨t161,A26,H⟩:=bz H;have H':=aM H;clear H;obtain ⟨Ao27,co27,eo27⟩:=Kd.N_slice HO_8.out;subst eo27;go_wp2_with (first|((with_reducible refine gate_callee (f:=77) rfl ?_);refine gm (some 41) Try.func77 #[.slice Ao27 x8_1.length co27,.int .i64 (wrap64 (a2+1))] ?_;(with_reducible refine (impl_reduceAny.calls k1 _ _ x8_1 (wrap64 (a2+1)) t161 _ ?side1 ?side2 A26.out).mono ?_);(case side1=>exact zc (Kd.N_reads' HO_8.out).2.2);(case side2=>exact (Kd.N_reads' HO_8.out).2.1);rintro e w28 ⟨v162,rfl,ho0,hb⟩;refine ⟨_,rfl,?_⟩;have HO163:=aM (Kd.N_lower (Kd.N_mono (ok':=fun k_=>(w.heap.size≤k_)∧some k_≠(.slice Ao27 x8_1.length co27:Value).ownBlock) (Kd.S_N (Kd.S_bound ho0)) (fun k_ hk_=>⟨(Nat.le_trans (below_size (zb HB.out)) hk_.2.1),(Kd.fresh' (Kd.N_lt (zn HO_8.out)) k_ hk_.2.1)⟩)) (below_size (zb HB.out)));replace HO_8:=aM (Kd.N_elder' (zn HO_8.out) (Z50 ho0) hb);replace HB:=aM (below_step (zb HB.out) hb);(try clear hb);(try clear hk);(try clear ho0);obtain ⟨Ao29,co29,eo29⟩:=Kd.N_slice HO163.out;subst eo29));go_loopg [44] k1 (fun kq v44 w'=>∃(x44_2:Int),v44 = .int .i64 x44_2∧Aside0 (impl_solved.l1 kq a2 t161 t161 (t161.length:Int) x44_2=some (r1,r2))∧Aside0 (kq≤k1)∧Aside0 (Kd.N (Kd.slice 3 (Kd.int .i64)) 23 w' w.heap.size (fun k_=>(w.heap.size≤k_)) (.slice Ao29 t161.length co29) t161)∧Aside0 (Kd.N (Kd.slice 3 (Kd.int .i64)) 23 w' w.heap.size (fun k_=>(w.heap.size≤k_)) (.slice Ao29 t161.length co29) t161)∧Aside0 (Below w.heap.size w w'));(case atStart=>exact ⟨(0),zt,H',⟨Nat.le_refl _⟩,⟨Z38 HO163.out⟩,⟨Z38 HO163.out⟩,⟨zb HB.out⟩⟩)
     case round=>
      clear H';(try clear c1);(try clear c5);(try clear c6);(try clear c6b0);(try clear c7b0);(try clear c8b0);(try clear c10b0);(try clear c11);(try clear c12);(try clear hx144_0);(try clear hx148_0);(try clear p144);(try clear p148);(try clear q144);(try clear q148);obtain ⟨x44_2,rfl,HA,HK2,HO_11,HO_42,HB⟩:=hrel;cases gk with
      | zero=>exact absurd HA.out (by simp [impl_solved.l1])
      | succ k2=>
       have H:=HA.out;clear HA;simp only [impl_solved.l1] at H;by_cases c30:x44_2<(t161.length:Int)
       ·rw [if_pos c30] at H;have c30b0:decide (x44_2<(t161.length:Int))=true:=decide_eq_true c30;clear c30;obtain ⟨c31b0,H⟩:=iN H;obtain ⟨c32b0,H⟩:=iN H;obtain ⟨t165,A33,H⟩:=bz H;by_cases c34:t165=a2
        ·rw [if_pos c34] at H;have c34b0:(t165 == a2)=true:=beq_iff_eq.mpr c34;have c34b1:(t165 != a2)=false:=bne_eq_false_iff_eq.mpr c34;clear c34;simp only [Option.some.injEq,Prod.mk.injEq] at H;obtain ⟨rfl,rfl⟩:=H;have p164:0≤(x44_2:Int):=zd;have q164:x44_2<(t161.length:Int):=zd;obtain ⟨ad164,A164_0,c164_0,e164,hx164_0,hl164_0,hi164_0⟩:=at_L1 (Kd.N_reads' HO_42.out).2.2 x44_2 p164 q164;cases e164;obtain ⟨ce164,hce164,hMe164,hcc164⟩:=Kd.N_get HO_42.out [] x44_2 p164 (Z20 q164 HO_42.out);obtain ⟨ua164_0,uc164_0,rfl,ul164_0,ge164_0⟩:=Kd.FK_slice_open hMe164;have hv164_0:=hcc164 0 _ rfl;rw [Nat.add_zero,show ((Kd.slice 3 (Kd.int .i64))).sz=1 from rfl,Nat.mul_one] at hv164_0;replace hv164_0:=Option.some.inj (hv164_0.symm.trans hx164_0);injection hv164_0 with hva_ hvn_ hvc_
         rw [hva_] at ge164_0;rw [hvc_] at ul164_0;have HL164_0:=aM (show Kd.V (Kd.int .i64) 3 _ w.heap.size _ _ (rd_L1 t161 x44_2) from Kd.V_mk ul164_0 ge164_0);clear hva_ hvn_ hvc_ ge164_0 ul164_0 hcc164 hce164;have HR164_0:=aM hi164_0;have HC164_0:=aM hl164_0;clear hi164_0 hl164_0;replace p164:=eq_true p164;replace q164:=eq_true q164;go_wp2_with (first|((with_reducible refine gate_callee (f:=59) rfl ?_);refine gm (some 49) Try.func59 #[.slice A164_0 (rd_L1 t161 x44_2).length c164_0] ?_;(with_reducible refine (impl_lead.calls k2 _ _ (rd_L1 t161 x44_2) t165 _ ?side1 ?side2 A33.out).mono ?_);(case side1=>exact zc HR164_0.out);(case side2=>exact HC164_0.out);rintro e w' ⟨rfl,⟨nd,rfl⟩⟩;refine ⟨_,rfl,?_⟩));go_ret2;exact ⟨_,Z7,Z54,zb HB.out⟩
        ·rw [if_neg c34] at H;have c34b0:(t165 == a2)=false:=beq_eq_false_iff_ne.mpr c34;have c34b1:(t165 != a2)=true:=bne_iff_ne.mpr c34;have H':=aM H;clear H;have p164:0≤(x44_2:Int):=zd;have q164:x44_2<(t161.length:Int):=zd;obtain ⟨ad164,A164_0,c164_0,e164,hx164_0,hl164_0,hi164_0⟩:=at_L1 (Kd.N_reads' HO_42.out).2.2 x44_2 p164 q164;cases e164;obtain ⟨ce164,hce164,hMe164,hcc164⟩:=Kd.N_get HO_42.out [] x44_2 p164 (Z20 q164 HO_42.out);obtain ⟨ua164_0,uc164_0,rfl,ul164_0,ge164_0⟩:=Kd.FK_slice_open hMe164;have hv164_0:=hcc164 0 _ rfl;rw [Nat.add_zero,show ((Kd.slice 3 (Kd.int .i64))).sz=1 from rfl,Nat.mul_one] at hv164_0;replace hv164_0:=Option.some.inj (hv164_0.symm.trans hx164_0);injection hv164_0 with hva_ hvn_ hvc_
         rw [hva_] at ge164_0;rw [hvc_] at ul164_0;have HL164_0:=aM (show Kd.V (Kd.int .i64) 3 _ w.heap.size _ _ (rd_L1 t161 x44_2) from Kd.V_mk ul164_0 ge164_0);clear hva_ hvn_ hvc_ ge164_0 ul164_0 hcc164 hce164;have HR164_0:=aM hi164_0;have HC164_0:=aM hl164_0;clear hi164_0 hl164_0;replace p164:=eq_true p164;replace q164:=eq_true q164;go_wp2_with (first|((with_reducible refine gate_callee (f:=59) rfl ?_);refine gm (some 49) Try.func59 #[.slice A164_0 (rd_L1 t161 x44_2).length c164_0] ?_;(with_reducible refine (impl_lead.calls k2 _ _ (rd_L1 t161 x44_2) t165 _ ?side1 ?side2 A33.out).mono ?_);(case side1=>exact zc HR164_0.out);(case side2=>exact HC164_0.out);rintro e w' ⟨rfl,⟨nd,rfl⟩⟩;refine ⟨_,rfl,?_⟩));go_roundg k2;(case measure=>have:=HK1.out;have:=HK2.out;omega);(case rel=>exact ⟨(wrap64 (x44_2+1)),zt,H',⟨Z87 HK1.out HK2.out⟩,⟨zn HO_11.out⟩,⟨zn HO_42.out⟩,⟨zb HB.out⟩⟩)
       ·rw [if_neg c30] at H;have c30b0:decide (x44_2<(t161.length:Int))=false:=decide_eq_false c30;clear c30;simp only [Option.some.injEq,Prod.mk.injEq] at H;obtain ⟨rfl,rfl⟩:=H;go_wp2;go_ret2;exact ⟨_,Z7,zn HO_11.out,zb HB.out⟩
 ·replace c5:=Bool.eq_false_iff.mpr c5;subst c5;replace H:=ifF H;simp only [Option.some.injEq,Prod.mk.injEq] at H;obtain ⟨rfl,rfl⟩:=H;go_enter Try.func58,Try.ntmps58;go_wp2_with (first|((with_reducible refine gate_callee (f:=71) rfl ?_);refine gm (some 17) Try.func71 #[.slice A0 l0.length c0,.slice A1 l1.length c1,.int .i64 a2] ?_;(with_reducible refine (impl_IsSystem.calls k _ _ l0 _ _ l1 a2 false _ ?side1 ?side2 ?side3 ?side4 A4.out).mono ?_);(case side1=>exact zc HR0.out);(case side2=>exact HC0.out);(case side3=>exact zc HR1.out);(case side4=>exact HC1.out);rintro e w' ⟨rfl,⟨nd,rfl⟩⟩;refine ⟨_,rfl,?_⟩));go_ret2;exact ⟨_,Z7,Z54,zb HB.out⟩
def impl_IsRatio.f (k:Nat) (a0_0:Int) (a0_1:Int):Option (Bool):=(impl_InRange.f a0_0 (-1000000000) 1000000000).bind fun t167=>(if t167=true then ((impl_InRange.f a0_1 1 1000000000).bind fun t168=>(if t168=true then ((impl_gcd.f k a0_0 a0_1).bind fun t169=>(some (t169 == 1))) else (some false))) else (some false))
set_option maxHeartbeats 8000000 in
set_option maxRecDepth 100000 in
theorem impl_IsRatio.calls (k : Nat) (a0_0 : Int) (a0_1 : Int) (r : Bool) (w : World) (h : impl_IsRatio.f k a0_0 a0_1 = some r) :
 Calls Try.prog 74 #[.agg #[.int .i64 a0_0, .int .i64 a0_1]] w fun e w' => e = .returned (.bool r) ∧ Below w.heap.size w w' := by
 have hu26:=Try.underlying26;have HB:=aM (Below.refl w.heap.size w);have H:((impl_InRange.f a0_0 (-1000000000) 1000000000).bind fun t167=>(if t167=true then ((impl_InRange.f a0_1 1 1000000000).bind fun t168=>(if t168=true then ((impl_gcd.f k a0_0 a0_1).bind fun t169=>(some (t169 == 1))) else (some false))) else (some false)))=some r:=h;clear h;obtain ⟨t167,A2,H⟩:=bz H;by_cases c3:t167=true
 ·subst c3;replace H:=ifT H;obtain ⟨t168,A4,H⟩:=bz H;by_cases c5:t168=true
  ·subst c5;replace H:=ifT H;obtain ⟨t169,A6,H⟩:=bz H;obtain rfl:=Option.some.inj H;go_enter Try.func74,Try.ntmps74;go_wp2_with (first|((with_reducible refine gate_dst (N:=1) rfl ?_);refine box_event ?hg (N:=1) ?hd (cs:=#[.int .i64 a0_0,.int .i64 a0_1]) (t:=26) ?hr ?_;(case hd=>rfl);(case hg=>rfl);(case hr=>exact (Z9));intro gb166 hg w7 hbox hb;have BK166:=aM (hbox);have GW166:=aM ((zg hg (zb HB.out)));have GE166:=aM ((zg hg (zb HB.out)));replace HB:=aM (below_step (zb HB.out) hb);clear hb hbox hg;have hcz8_0:w7.cell? ⟨gb166,0,none⟩=some (.int .i64 a0_0):=(blk_cell BK166.out 0).trans rfl;have hcz8_1:w7.cell? ⟨gb166,1,none⟩=some (.int .i64 a0_1):=(blk_cell BK166.out 1).trans rfl;have hfz8_0:=blk_frozen BK166.out 0;have hfz8_1:=blk_frozen BK166.out 1)|((with_reducible refine gate_callee (f:=81) rfl ?_);refine gm (some 5) Try.func81 #[.int .i64 a0_0,.int .i64 (-1000000000),.int .i64 1000000000] ?_;(with_reducible refine (impl_InRange.calls a0_0 (-1000000000) 1000000000 true _ A2.out).mono ?_);rintro e w' ⟨rfl,⟨nd,rfl⟩⟩;refine ⟨_,rfl,?_⟩)|(go_at_call 81;(with_reducible refine (impl_InRange.calls a0_1 1 1000000000 true _ A4.out).mono ?_);rintro e w' ⟨rfl,⟨nd,rfl⟩⟩)|(go_at_call 60;(with_reducible refine (impl_gcd.calls k a0_0 a0_1 t169 _ A6.out).mono ?_);rintro e w' ⟨rfl,⟨nd,rfl⟩⟩));go_ret;exact ⟨Z7,zs HB.out⟩
  ·replace c5:=Bool.eq_false_iff.mpr c5;subst c5;replace H:=ifF H;obtain rfl:=Option.some.inj H;go_enter Try.func74,Try.ntmps74;go_wp2_with (first|((with_reducible refine gate_dst (N:=1) rfl ?_);refine box_event ?hg (N:=1) ?hd (cs:=#[.int .i64 a0_0,.int .i64 a0_1]) (t:=26) ?hr ?_;(case hd=>rfl);(case hg=>rfl);(case hr=>exact (Z9));intro gb166 hg w9 hbox hb;have BK166:=aM (hbox);have GW166:=aM ((zg hg (zb HB.out)));have GE166:=aM ((zg hg (zb HB.out)));replace HB:=aM (below_step (zb HB.out) hb);clear hb hbox hg;have hcz10_0:w9.cell? ⟨gb166,0,none⟩=some (.int .i64 a0_0):=(blk_cell BK166.out 0).trans rfl;have hcz10_1:w9.cell? ⟨gb166,1,none⟩=some (.int .i64 a0_1):=(blk_cell BK166.out 1).trans rfl;have hfz10_0:=blk_frozen BK166.out 0;have hfz10_1:=blk_frozen BK166.out 1)|((with_reducible refine gate_callee (f:=81) rfl ?_);refine gm (some 5) Try.func81 #[.int .i64 a0_0,.int .i64 (-1000000000),.int .i64 1000000000] ?_;(with_reducible refine (impl_InRange.calls a0_0 (-1000000000) 1000000000 true _ A2.out).mono ?_);rintro e w' ⟨rfl,⟨nd,rfl⟩⟩;refine ⟨_,rfl,?_⟩)|(go_at_call 81;(with_reducible refine (impl_InRange.calls a0_1 1 1000000000 false _ A4.out).mono ?_);rintro e w' ⟨rfl,⟨nd,rfl⟩⟩));go_ret;exact ⟨Z7,zs HB.out⟩
 ·replace c3:=Bool.eq_false_iff.mpr c3;subst c3;replace H:=ifF H;obtain rfl:=Option.some.inj H;go_enter Try.func74,Try.ntmps74;go_wp2_with (first|((with_reducible refine gate_dst (N:=1) rfl ?_);refine box_event ?hg (N:=1) ?hd (cs:=#[.int .i64 a0_0,.int .i64 a0_1]) (t:=26) ?hr ?_;(case hd=>rfl);(case hg=>rfl);(case hr=>exact (Z9));intro gb166 hg w11 hbox hb;have BK166:=aM (hbox);have GW166:=aM ((zg hg (zb HB.out)));have GE166:=aM ((zg hg (zb HB.out)));replace HB:=aM (below_step (zb HB.out) hb);clear hb hbox hg;have hcz12_0:w11.cell? ⟨gb166,0,none⟩=some (.int .i64 a0_0):=(blk_cell BK166.out 0).trans rfl;have hcz12_1:w11.cell? ⟨gb166,1,none⟩=some (.int .i64 a0_1):=(blk_cell BK166.out 1).trans rfl;have hfz12_0:=blk_frozen BK166.out 0;have hfz12_1:=blk_frozen BK166.out 1)|((with_reducible refine gate_callee (f:=81) rfl ?_);refine gm (some 5) Try.func81 #[.int .i64 a0_0,.int .i64 (-1000000000),.int .i64 1000000000] ?_;(with_reducible refine (impl_InRange.calls a0_0 (-1000000000) 1000000000 false _ A2.out).mono ?_);rintro e w' ⟨rfl,⟨nd,rfl⟩⟩;refine ⟨_,rfl,?_⟩));go_ret;exact ⟨Z7,zs HB.out⟩
end Go.Proofs.Ytojkepidkmkmpaa.PFnSolved
end
section
namespace Go.Proofs.Ytojkepidkmkmpaa.PFnSolved
open Go.Proofs.YtojkepidkmkmpaaW.PrintWords.Aside0 renaming mk → aM
open List renaming setIfInBounds_toArray → aQ, set_cons_zero → zQ, set_cons_succ → sQ
open Bool renaming true → tt, false → ff
open Option renaming bind_eq_some_iff → bE

open Go.RowKit Go.Proofs.YtojkepidkmkmpaaW.PrintWords Go.Proofs.YtojkepidkmkmpaaW.PrintLast Go.Proofs.YtojkepidkmkmpaaW.PrintMore
attribute [local go_sem] max2_int min2_int max_two min_two max_three min_three max_four min_four
set_option linter.unusedVariables false
set_option linter.unusedSimpArgs false
def impl_reduced.f (k:Nat) (a0:Int) (a1:Int):Option (Int × Int × Bool):=(impl_gcd.f k a0 a1).bind fun t171=>(if a1<0 then (if (wrap64 (-t171))=0 then (none) else ((impl_IsRatio.f k (wrap64 (Int.tdiv a0 (wrap64 (-t171)))) (wrap64 (Int.tdiv a1 (wrap64 (-t171))))).bind fun t173=>(if t173=true then (some (wrap64 (Int.tdiv a0 (wrap64 (-t171))),wrap64 (Int.tdiv a1 (wrap64 (-t171))),true)) else (some (0,0,false))))) else (if t171=0 then (none) else ((impl_IsRatio.f k (wrap64 (Int.tdiv a0 t171)) (wrap64 (Int.tdiv a1 t171))).bind fun t175=>(if t175=true then (some (wrap64 (Int.tdiv a0 t171),wrap64 (Int.tdiv a1 t171),true)) else (some (0,0,false))))))
def impl_reduced.T4:Bool × List (List Nat × List Nat):=(true,[([],[]),([],[]),([0,1],[0,1]),([],[]),([],[]),([3,4],[3,4]),([2,5],[2,5]),([],[]),([7,6,0,1,2,3,4,5,6,7],[6,7])])
def impl_reduced.B4:List Nat:=[0,0,3,0,0,24,63,0,255]
theorem impl_reduced.tab4:rtab .any (opsOf Try.f61 4)=impl_reduced.T4:=by kernel_rfl
theorem impl_reduced.bits4:waitsOk impl_reduced.T4.2 impl_reduced.B4=true:=by kernel_rfl
set_option maxHeartbeats 8000000 in
set_option maxRecDepth 100000 in
theorem impl_reduced.calls (k : Nat) (a0 : Int) (a1 : Int) (r1 : Int) (r2 : Int) (r3 : Bool) (w : World) (h : impl_reduced.f k a0 a1 = some (r1, r2, r3)) :
 Calls Try.prog 61 #[.int .i64 a0, .int .i64 a1] w fun e w' => e = .returned (.tuple #[.agg #[.int .i64 r1, .int .i64 r2], .bool r3]) ∧ Below w.heap.size w w' := by
 have hu26:=Try.underlying26;have HB:=aM (Below.refl w.heap.size w);have H:((impl_gcd.f k a0 a1).bind fun t171=>(if a1<0 then (if (wrap64 (-t171))=0 then (none) else ((impl_IsRatio.f k (wrap64 (Int.tdiv a0 (wrap64 (-t171)))) (wrap64 (Int.tdiv a1 (wrap64 (-t171))))).bind fun t173=>(if t173=true then (some (wrap64 (Int.tdiv a0 (wrap64 (-t171))),wrap64 (Int.tdiv a1 (wrap64 (-t171))),true)) else (some (0,0,false))))) else (if t171=0 then (none) else ((impl_IsRatio.f k (wrap64 (Int.tdiv a0 t171)) (wrap64 (Int.tdiv a1 t171))).bind fun t175=>(if t175=true then (some (wrap64 (Int.tdiv a0 t171),wrap64 (Int.tdiv a1 t171),true)) else (some (0,0,false)))))))=some (r1,r2,r3):=h;clear h;obtain ⟨t171,A3,H⟩:=bz H;by_cases c4:a1<0
 ·rw [if_pos c4] at H;have c4b0:decide (a1<0)=true:=decide_eq_true c4;clear c4;by_cases c5:(wrap64 (-t171))=0
  ·rw [if_pos c5] at H;exact absurd H (Z81)
  ·rw [if_neg c5] at H;have c5b0:((wrap64 (-t171)) == 0)=false:=beq_eq_false_iff_ne.mpr c5;have c5b1:((wrap64 (-t171)) != 0)=true:=bne_iff_ne.mpr c5;obtain ⟨t173,A6,H⟩:=bz H;by_cases c7:t173=true
   ·subst c7;replace H:=ifT H;simp only [Option.some.injEq,Prod.mk.injEq] at H;obtain ⟨rfl,rfl,rfl⟩:=H;go_enter Try.func61,Try.ntmps61;(try go_wp2_with (first|((with_reducible refine gate_dst (N:=4) rfl ?_);refine box_event ?hg (N:=4) ?hd (cs:=#[.int .i64 0,.int .i64 0]) (t:=26) ?hr ?_;(case hd=>rfl);(case hg=>rfl);(case hr=>exact (Z9));intro gb170 hg w8 hbox hb;have BK170:=aM (hbox);have GW170:=aM ((zg hg (zb HB.out)));have GE170:=aM ((zg hg (zb HB.out)));replace HB:=aM (below_step (zb HB.out) hb);clear hb hbox hg)|((with_reducible refine gate_callee (f:=60) rfl ?_);refine gm (some 10) Try.func60 #[.int .i64 a0,.int .i64 a1] ?_;(with_reducible refine (impl_gcd.calls k a0 a1 t171 _ A3.out).mono ?_);rintro e w' ⟨rfl,⟨nd,rfl⟩⟩;refine ⟨_,rfl,?_⟩;(try (rw [drewN_self w8];generalize hq_:World.drewN w8 _=w8;replace BK170:Aside0 (w8.heap[gb170]?=some (.cells #[.int .i64 0,.int .i64 0] 26 (0,0))):=⟨by rw [← hq_];exact (zk BK170.out)⟩;replace HB:Aside0 (Below w.heap.size w w8):=⟨by rw [← hq_];exact (zs HB.out)⟩;clear hq_)))));replace BK170:=aM (blk_drew BK170.out);replace HB:=aM (below_drew1 HB.out);refine start_ (n:=9) (S:=fun w'=>True) (ds:=[]) #[ff,ff,ff,ff,ff,ff,ff,ff,ff] (Z17) rfl rfl trivial (fun hHeld=>?_);refine with_tabW impl_reduced.tab4 impl_reduced.bits4 (fun HT_ HW_=>?_);generalize w8.drew=w9 at BK170 HB hHeld ⊢;refine pu 0 (some 15) #[tt,ff,ff,ff,ff,ff,ff,ff,ff] rfl rfl HT_ ?_;refine pu 1 (some 16) #[tt,tt,ff,ff,ff,ff,ff,ff,ff] rfl rfl HT_ ?_;refine pu 2 (some 17) #[tt,tt,tt,ff,ff,ff,ff,ff,ff] rfl rfl HT_ ?_;refine pu 3 (some 18) #[tt,tt,tt,tt,ff,ff,ff,ff,ff] rfl rfl HT_ ?_;refine pu 4 (some 19) #[tt,tt,tt,tt,tt,ff,ff,ff,ff] rfl rfl HT_ ?_;refine pu 5 (some 20) #[tt,tt,tt,tt,tt,tt,ff,ff,ff] rfl rfl HT_ ?_;refine pu 6 (some 21) #[tt,tt,tt,tt,tt,tt,tt,ff,ff] rfl rfl HT_ ?_;refine one_ (i:=7) (N:=some 7) #[tt,tt,tt,tt,tt,tt,tt,tt,ff] rfl rfl (one_of HT_.out (Z17)) (Z19) (fun K hK=>?_);refine box_step ?hg (N:=7) ?hd (cs:=#[.int .i64 0,.int .i64 0]) (t:=26) ?hr ?_;(case hd=>rfl);(case hg=>rfl);(case hr=>exact (Z9));intro gb172 hg w10 hbox hb;have BK172:=aM (hbox);have GW172:=aM ((zg hg (zs HB.out)));have GE172:=aM ((zg hg (zs HB.out)));replace HB:=aM (below_step (zs HB.out) hb);have NB170_172:=aM ((zl hg (zk BK170.out)));have NB172_170:=aM ((zm hg (zk BK170.out)));replace BK170:=aM (blk_below (g:=gb170) (o:=.cells #[.int .i64 0,.int .i64 0] 26 (0,0)) (zk BK170.out) hb);clear hb hbox hg;refine hK.out _ _ trivial (fun hHeld=>?_);clear hK K;refine norm_ (a':=?_) ?_ ?_;rotate_left
    ·show Act.put _ (some 7) _=_;simp only [Act.put,aQ,zQ,sQ,i64_w,i32_w];rfl
    refine one_ (i:=8) (N:=none) #[tt,tt,tt,tt,tt,tt,tt,tt,tt] rfl rfl (one_of HT_.out (Z17)) (Z19) (fun K hK=>?_);have hs11:w10.cell? ⟨gb172,0,none⟩=some (.int .i64 0):=(blk_cell BK172.out 0).trans rfl;have hfs11:=blk_frozen BK172.out 0;have hns11_0:=NB170_172.out;have hms11_0:=NB172_170.out;have hs12:w10.cell? ⟨gb172,1,none⟩=some (.int .i64 0):=(blk_cell BK172.out 1).trans rfl;have hfs12:=blk_frozen BK172.out 1;have hns12_0:=NB170_172.out;have hms12_0:=NB172_170.out;refine skip_ (w1:=?_) (Z83) rfl ?_ ?_;rotate_left
    ·go_simp;rfl
    refine hK.out _ _ trivial (fun hHeld=>?_);clear hK K;refine done_ (done_of HT_.out (Z17)) ?_;have hnb13:=NB172_170.out;have hnc13:=NB170_172.out;have hcz14_0:w10.cell? ⟨gb172,0,none⟩=some (.int .i64 0):=(blk_cell BK172.out 0).trans rfl;have hcz14_1:w10.cell? ⟨gb172,1,none⟩=some (.int .i64 0):=(blk_cell BK172.out 1).trans rfl;have hfz14_0:=blk_frozen BK172.out 0;have hfz14_1:=blk_frozen BK172.out 1;(try go_wp2_with (first|((with_reducible refine gate_callee (f:=74) rfl ?_);refine gm (some 23) Try.func74 #[.agg #[.int .i64 (wrap64 (Int.tdiv a0 (wrap64 (-t171)))),.int .i64 (wrap64 (Int.tdiv a1 (wrap64 (-t171))))]] ?_;(with_reducible refine (impl_IsRatio.calls k (wrap64 (Int.tdiv a0 (wrap64 (-t171)))) (wrap64 (Int.tdiv a1 (wrap64 (-t171)))) true _ A6.out).mono ?_);rintro e w15 ⟨rfl,hb⟩;refine ⟨_,rfl,?_⟩;replace BK170:=aM (blk_below (g:=gb170) (o:=.cells #[.int .i64 0,.int .i64 0] 26 (0,0)) (Z6 NB170_172.out BK170.out) hb);replace BK172:=aM (blk_below (g:=gb172) (o:=.cells #[.int .i64 (wrap64 (Int.tdiv a0 (wrap64 (-t171)))),.int .i64 (wrap64 (Int.tdiv a1 (wrap64 (-t171))))] 26 (0,0)) (Z29 BK172.out) hb);replace HB:=aM (below_step (zs HB.out) hb);(try clear hb);have hcz16_0:w15.cell? ⟨gb172,0,none⟩=some (.int .i64 (wrap64 (Int.tdiv a0 (wrap64 (-t171))))):=(blk_cell BK172.out 0).trans rfl;have hcz16_1:w15.cell? ⟨gb172,1,none⟩=some (.int .i64 (wrap64 (Int.tdiv a1 (wrap64 (-t171))))):=(blk_cell BK172.out 1).trans rfl;have hfz16_0:=blk_frozen BK172.out 0;have hfz16_1:=blk_frozen BK172.out 1;have hcz17_0:w15.cell? ⟨gb170,0,none⟩=some (.int .i64 0):=(blk_cell BK170.out 0).trans rfl;have hcz17_1:w15.cell? ⟨gb170,1,none⟩=some (.int .i64 0):=(blk_cell BK170.out 1).trans rfl;have hfz17_0:=blk_frozen BK170.out 0;have hfz17_1:=blk_frozen BK170.out 1)));refine bodyPost_ret (results_ct rfl _ _ gb170 26 #[.int .i64 (wrap64 (Int.tdiv a0 (wrap64 (-t171)))),.int .i64 (wrap64 (Int.tdiv a1 (wrap64 (-t171))))] (0,0) _ rfl (Z29 BK170.out) Try.underlying26 rfl (Z17)) rfl ?_;exact ⟨Z7,zs HB.out⟩
   ·replace c7:=Bool.eq_false_iff.mpr c7;subst c7;replace H:=ifF H;simp only [Option.some.injEq,Prod.mk.injEq] at H;obtain ⟨rfl,rfl,rfl⟩:=H;go_enter Try.func61,Try.ntmps61;(try go_wp2_with (first|((with_reducible refine gate_dst (N:=4) rfl ?_);refine box_event ?hg (N:=4) ?hd (cs:=#[.int .i64 0,.int .i64 0]) (t:=26) ?hr ?_;(case hd=>rfl);(case hg=>rfl);(case hr=>exact (Z9));intro gb170 hg w18 hbox hb;have BK170:=aM (hbox);have GW170:=aM ((zg hg (zb HB.out)));have GE170:=aM ((zg hg (zb HB.out)));replace HB:=aM (below_step (zb HB.out) hb);clear hb hbox hg)|((with_reducible refine gate_callee (f:=60) rfl ?_);refine gm (some 10) Try.func60 #[.int .i64 a0,.int .i64 a1] ?_;(with_reducible refine (impl_gcd.calls k a0 a1 t171 _ A3.out).mono ?_);rintro e w' ⟨rfl,⟨nd,rfl⟩⟩;refine ⟨_,rfl,?_⟩;(try (rw [drewN_self w18];generalize hq_:World.drewN w18 _=w18;replace BK170:Aside0 (w18.heap[gb170]?=some (.cells #[.int .i64 0,.int .i64 0] 26 (0,0))):=⟨by rw [← hq_];exact (zk BK170.out)⟩;replace HB:Aside0 (Below w.heap.size w w18):=⟨by rw [← hq_];exact (zs HB.out)⟩;clear hq_)))));replace BK170:=aM (blk_drew BK170.out);replace HB:=aM (below_drew1 HB.out);refine start_ (n:=9) (S:=fun w'=>True) (ds:=[]) #[ff,ff,ff,ff,ff,ff,ff,ff,ff] (Z17) rfl rfl trivial (fun hHeld=>?_);refine with_tabW impl_reduced.tab4 impl_reduced.bits4 (fun HT_ HW_=>?_);generalize w18.drew=w19 at BK170 HB hHeld ⊢;refine pu 0 (some 15) #[tt,ff,ff,ff,ff,ff,ff,ff,ff] rfl rfl HT_ ?_;refine pu 1 (some 16) #[tt,tt,ff,ff,ff,ff,ff,ff,ff] rfl rfl HT_ ?_;refine pu 2 (some 17) #[tt,tt,tt,ff,ff,ff,ff,ff,ff] rfl rfl HT_ ?_;refine pu 3 (some 18) #[tt,tt,tt,tt,ff,ff,ff,ff,ff] rfl rfl HT_ ?_;refine pu 4 (some 19) #[tt,tt,tt,tt,tt,ff,ff,ff,ff] rfl rfl HT_ ?_;refine pu 5 (some 20) #[tt,tt,tt,tt,tt,tt,ff,ff,ff] rfl rfl HT_ ?_;refine pu 6 (some 21) #[tt,tt,tt,tt,tt,tt,tt,ff,ff] rfl rfl HT_ ?_;refine one_ (i:=7) (N:=some 7) #[tt,tt,tt,tt,tt,tt,tt,tt,ff] rfl rfl (one_of HT_.out (Z17)) (Z19) (fun K hK=>?_);refine box_step ?hg (N:=7) ?hd (cs:=#[.int .i64 0,.int .i64 0]) (t:=26) ?hr ?_;(case hd=>rfl);(case hg=>rfl);(case hr=>exact (Z9));intro gb172 hg w20 hbox hb;have BK172:=aM (hbox);have GW172:=aM ((zg hg (zs HB.out)));have GE172:=aM ((zg hg (zs HB.out)));replace HB:=aM (below_step (zs HB.out) hb);have NB170_172:=aM ((zl hg (zk BK170.out)));have NB172_170:=aM ((zm hg (zk BK170.out)));replace BK170:=aM (blk_below (g:=gb170) (o:=.cells #[.int .i64 0,.int .i64 0] 26 (0,0)) (zk BK170.out) hb);clear hb hbox hg;refine hK.out _ _ trivial (fun hHeld=>?_);clear hK K;refine norm_ (a':=?_) ?_ ?_;rotate_left
    ·show Act.put _ (some 7) _=_;simp only [Act.put,aQ,zQ,sQ,i64_w,i32_w];rfl
    refine one_ (i:=8) (N:=none) #[tt,tt,tt,tt,tt,tt,tt,tt,tt] rfl rfl (one_of HT_.out (Z17)) (Z19) (fun K hK=>?_);have hs21:w20.cell? ⟨gb172,0,none⟩=some (.int .i64 0):=(blk_cell BK172.out 0).trans rfl;have hfs21:=blk_frozen BK172.out 0;have hns21_0:=NB170_172.out;have hms21_0:=NB172_170.out;have hs22:w20.cell? ⟨gb172,1,none⟩=some (.int .i64 0):=(blk_cell BK172.out 1).trans rfl;have hfs22:=blk_frozen BK172.out 1;have hns22_0:=NB170_172.out;have hms22_0:=NB172_170.out;refine skip_ (w1:=?_) (Z83) rfl ?_ ?_;rotate_left
    ·go_simp;rfl
    refine hK.out _ _ trivial (fun hHeld=>?_);clear hK K;refine done_ (done_of HT_.out (Z17)) ?_;have hnb23:=NB172_170.out;have hnc23:=NB170_172.out;have hcz24_0:w20.cell? ⟨gb172,0,none⟩=some (.int .i64 0):=(blk_cell BK172.out 0).trans rfl;have hcz24_1:w20.cell? ⟨gb172,1,none⟩=some (.int .i64 0):=(blk_cell BK172.out 1).trans rfl;have hfz24_0:=blk_frozen BK172.out 0;have hfz24_1:=blk_frozen BK172.out 1;(try go_wp2_with (first|((with_reducible refine gate_callee (f:=74) rfl ?_);refine gm (some 23) Try.func74 #[.agg #[.int .i64 (wrap64 (Int.tdiv a0 (wrap64 (-t171)))),.int .i64 (wrap64 (Int.tdiv a1 (wrap64 (-t171))))]] ?_;(with_reducible refine (impl_IsRatio.calls k (wrap64 (Int.tdiv a0 (wrap64 (-t171)))) (wrap64 (Int.tdiv a1 (wrap64 (-t171)))) false _ A6.out).mono ?_);rintro e w25 ⟨rfl,hb⟩;refine ⟨_,rfl,?_⟩;replace BK170:=aM (blk_below (g:=gb170) (o:=.cells #[.int .i64 0,.int .i64 0] 26 (0,0)) (Z6 NB170_172.out BK170.out) hb);replace BK172:=aM (blk_below (g:=gb172) (o:=.cells #[.int .i64 (wrap64 (Int.tdiv a0 (wrap64 (-t171)))),.int .i64 (wrap64 (Int.tdiv a1 (wrap64 (-t171))))] 26 (0,0)) (Z29 BK172.out) hb);replace HB:=aM (below_step (zs HB.out) hb);(try clear hb);have hcz26_0:w25.cell? ⟨gb170,0,none⟩=some (.int .i64 0):=(blk_cell BK170.out 0).trans rfl;have hcz26_1:w25.cell? ⟨gb170,1,none⟩=some (.int .i64 0):=(blk_cell BK170.out 1).trans rfl;have hfz26_0:=blk_frozen BK170.out 0;have hfz26_1:=blk_frozen BK170.out 1)));refine bodyPost_ret (results_ct rfl _ _ gb170 26 #[.int .i64 0,.int .i64 0] (0,0) _ rfl (Z10 BK170.out) Try.underlying26 rfl (Z17)) rfl ?_;exact ⟨Z7,zs HB.out⟩
 ·rw [if_neg c4] at H;have c4b0:decide (a1<0)=false:=decide_eq_false c4;clear c4;by_cases c27:t171=0
  ·rw [if_pos c27] at H;exact absurd H (Z81)
  ·rw [if_neg c27] at H;have c27b0:(t171 == 0)=false:=beq_eq_false_iff_ne.mpr c27;have c27b1:(t171 != 0)=true:=bne_iff_ne.mpr c27;obtain ⟨t175,A28,H⟩:=bz H;by_cases c29:t175=true
   ·subst c29;replace H:=ifT H;simp only [Option.some.injEq,Prod.mk.injEq] at H;obtain ⟨rfl,rfl,rfl⟩:=H;go_enter Try.func61,Try.ntmps61;(try go_wp2_with (first|((with_reducible refine gate_dst (N:=4) rfl ?_);refine box_event ?hg (N:=4) ?hd (cs:=#[.int .i64 0,.int .i64 0]) (t:=26) ?hr ?_;(case hd=>rfl);(case hg=>rfl);(case hr=>exact (Z9));intro gb170 hg w30 hbox hb;have BK170:=aM (hbox);have GW170:=aM ((zg hg (zb HB.out)));have GE170:=aM ((zg hg (zb HB.out)));replace HB:=aM (below_step (zb HB.out) hb);clear hb hbox hg)|((with_reducible refine gate_callee (f:=60) rfl ?_);refine gm (some 10) Try.func60 #[.int .i64 a0,.int .i64 a1] ?_;(with_reducible refine (impl_gcd.calls k a0 a1 t171 _ A3.out).mono ?_);rintro e w' ⟨rfl,⟨nd,rfl⟩⟩;refine ⟨_,rfl,?_⟩;(try (rw [drewN_self w30];generalize hq_:World.drewN w30 _=w30;replace BK170:Aside0 (w30.heap[gb170]?=some (.cells #[.int .i64 0,.int .i64 0] 26 (0,0))):=⟨by rw [← hq_];exact (zk BK170.out)⟩;replace HB:Aside0 (Below w.heap.size w w30):=⟨by rw [← hq_];exact (zs HB.out)⟩;clear hq_)))));replace BK170:=aM (blk_drew BK170.out);replace HB:=aM (below_drew1 HB.out);refine start_ (n:=9) (S:=fun w'=>True) (ds:=[]) #[ff,ff,ff,ff,ff,ff,ff,ff,ff] (Z17) rfl rfl trivial (fun hHeld=>?_);refine with_tabW impl_reduced.tab4 impl_reduced.bits4 (fun HT_ HW_=>?_);generalize w30.drew=w31 at BK170 HB hHeld ⊢;refine pu 0 (some 15) #[tt,ff,ff,ff,ff,ff,ff,ff,ff] rfl rfl HT_ ?_;refine pu 1 (some 16) #[tt,tt,ff,ff,ff,ff,ff,ff,ff] rfl rfl HT_ ?_;refine pu 2 (some 17) #[tt,tt,tt,ff,ff,ff,ff,ff,ff] rfl rfl HT_ ?_;refine pu 3 (some 18) #[tt,tt,tt,tt,ff,ff,ff,ff,ff] rfl rfl HT_ ?_;refine pu 4 (some 19) #[tt,tt,tt,tt,tt,ff,ff,ff,ff] rfl rfl HT_ ?_;refine pu 5 (some 20) #[tt,tt,tt,tt,tt,tt,ff,ff,ff] rfl rfl HT_ ?_;refine pu 6 (some 21) #[tt,tt,tt,tt,tt,tt,tt,ff,ff] rfl rfl HT_ ?_;refine one_ (i:=7) (N:=some 7) #[tt,tt,tt,tt,tt,tt,tt,tt,ff] rfl rfl (one_of HT_.out (Z17)) (Z19) (fun K hK=>?_);refine box_step ?hg (N:=7) ?hd (cs:=#[.int .i64 0,.int .i64 0]) (t:=26) ?hr ?_;(case hd=>rfl);(case hg=>rfl);(case hr=>exact (Z9));intro gb174 hg w32 hbox hb;have BK174:=aM (hbox);have GW174:=aM ((zg hg (zs HB.out)));have GE174:=aM ((zg hg (zs HB.out)));replace HB:=aM (below_step (zs HB.out) hb);have NB170_174:=aM ((zl hg (zk BK170.out)));have NB174_170:=aM ((zm hg (zk BK170.out)));replace BK170:=aM (blk_below (g:=gb170) (o:=.cells #[.int .i64 0,.int .i64 0] 26 (0,0)) (zk BK170.out) hb);clear hb hbox hg;refine hK.out _ _ trivial (fun hHeld=>?_);clear hK K;refine norm_ (a':=?_) ?_ ?_;rotate_left
    ·show Act.put _ (some 7) _=_;simp only [Act.put,aQ,zQ,sQ,i64_w,i32_w];rfl
    refine one_ (i:=8) (N:=none) #[tt,tt,tt,tt,tt,tt,tt,tt,tt] rfl rfl (one_of HT_.out (Z17)) (Z19) (fun K hK=>?_);have hs33:w32.cell? ⟨gb174,0,none⟩=some (.int .i64 0):=(blk_cell BK174.out 0).trans rfl;have hfs33:=blk_frozen BK174.out 0;have hns33_0:=NB170_174.out;have hms33_0:=NB174_170.out;have hs34:w32.cell? ⟨gb174,1,none⟩=some (.int .i64 0):=(blk_cell BK174.out 1).trans rfl;have hfs34:=blk_frozen BK174.out 1;have hns34_0:=NB170_174.out;have hms34_0:=NB174_170.out;refine skip_ (w1:=?_) (Z83) rfl ?_ ?_;rotate_left
    ·go_simp;rfl
    refine hK.out _ _ trivial (fun hHeld=>?_);clear hK K;refine done_ (done_of HT_.out (Z17)) ?_;have hnb35:=NB174_170.out;have hnc35:=NB170_174.out;have hcz36_0:w32.cell? ⟨gb174,0,none⟩=some (.int .i64 0):=(blk_cell BK174.out 0).trans rfl;have hcz36_1:w32.cell? ⟨gb174,1,none⟩=some (.int .i64 0):=(blk_cell BK174.out 1).trans rfl;have hfz36_0:=blk_frozen BK174.out 0;have hfz36_1:=blk_frozen BK174.out 1;(try go_wp2_with (first|((with_reducible refine gate_callee (f:=74) rfl ?_);refine gm (some 23) Try.func74 #[.agg #[.int .i64 (wrap64 (Int.tdiv a0 t171)),.int .i64 (wrap64 (Int.tdiv a1 t171))]] ?_;(with_reducible refine (impl_IsRatio.calls k (wrap64 (Int.tdiv a0 t171)) (wrap64 (Int.tdiv a1 t171)) true _ A28.out).mono ?_);rintro e w37 ⟨rfl,hb⟩;refine ⟨_,rfl,?_⟩;replace BK170:=aM (blk_below (g:=gb170) (o:=.cells #[.int .i64 0,.int .i64 0] 26 (0,0)) (Z6 NB170_174.out BK170.out) hb);replace BK174:=aM (blk_below (g:=gb174) (o:=.cells #[.int .i64 (wrap64 (Int.tdiv a0 t171)),.int .i64 (wrap64 (Int.tdiv a1 t171))] 26 (0,0)) (Z31 BK174.out) hb);replace HB:=aM (below_step (zs HB.out) hb);(try clear hb);have hcz38_0:w37.cell? ⟨gb174,0,none⟩=some (.int .i64 (wrap64 (Int.tdiv a0 t171))):=(blk_cell BK174.out 0).trans rfl;have hcz38_1:w37.cell? ⟨gb174,1,none⟩=some (.int .i64 (wrap64 (Int.tdiv a1 t171))):=(blk_cell BK174.out 1).trans rfl;have hfz38_0:=blk_frozen BK174.out 0;have hfz38_1:=blk_frozen BK174.out 1;have hcz39_0:w37.cell? ⟨gb170,0,none⟩=some (.int .i64 0):=(blk_cell BK170.out 0).trans rfl;have hcz39_1:w37.cell? ⟨gb170,1,none⟩=some (.int .i64 0):=(blk_cell BK170.out 1).trans rfl;have hfz39_0:=blk_frozen BK170.out 0;have hfz39_1:=blk_frozen BK170.out 1)));refine bodyPost_ret (results_ct rfl _ _ gb170 26 #[.int .i64 (wrap64 (Int.tdiv a0 t171)),.int .i64 (wrap64 (Int.tdiv a1 t171))] (0,0) _ rfl (Z31 BK170.out) Try.underlying26 rfl (Z17)) rfl ?_;exact ⟨Z7,zs HB.out⟩
   ·replace c29:=Bool.eq_false_iff.mpr c29;subst c29;replace H:=ifF H;simp only [Option.some.injEq,Prod.mk.injEq] at H;obtain ⟨rfl,rfl,rfl⟩:=H;go_enter Try.func61,Try.ntmps61;(try go_wp2_with (first|((with_reducible refine gate_dst (N:=4) rfl ?_);refine box_event ?hg (N:=4) ?hd (cs:=#[.int .i64 0,.int .i64 0]) (t:=26) ?hr ?_;(case hd=>rfl);(case hg=>rfl);(case hr=>exact (Z9));intro gb170 hg w40 hbox hb;have BK170:=aM (hbox);have GW170:=aM ((zg hg (zb HB.out)));have GE170:=aM ((zg hg (zb HB.out)));replace HB:=aM (below_step (zb HB.out) hb);clear hb hbox hg)|((with_reducible refine gate_callee (f:=60) rfl ?_);refine gm (some 10) Try.func60 #[.int .i64 a0,.int .i64 a1] ?_;(with_reducible refine (impl_gcd.calls k a0 a1 t171 _ A3.out).mono ?_);rintro e w' ⟨rfl,⟨nd,rfl⟩⟩;refine ⟨_,rfl,?_⟩;(try (rw [drewN_self w40];generalize hq_:World.drewN w40 _=w40;replace BK170:Aside0 (w40.heap[gb170]?=some (.cells #[.int .i64 0,.int .i64 0] 26 (0,0))):=⟨by rw [← hq_];exact (zk BK170.out)⟩;replace HB:Aside0 (Below w.heap.size w w40):=⟨by rw [← hq_];exact (zs HB.out)⟩;clear hq_)))));replace BK170:=aM (blk_drew BK170.out);replace HB:=aM (below_drew1 HB.out);refine start_ (n:=9) (S:=fun w'=>True) (ds:=[]) #[ff,ff,ff,ff,ff,ff,ff,ff,ff] (Z17) rfl rfl trivial (fun hHeld=>?_);refine with_tabW impl_reduced.tab4 impl_reduced.bits4 (fun HT_ HW_=>?_);generalize w40.drew=w41 at BK170 HB hHeld ⊢;refine pu 0 (some 15) #[tt,ff,ff,ff,ff,ff,ff,ff,ff] rfl rfl HT_ ?_;refine pu 1 (some 16) #[tt,tt,ff,ff,ff,ff,ff,ff,ff] rfl rfl HT_ ?_;refine pu 2 (some 17) #[tt,tt,tt,ff,ff,ff,ff,ff,ff] rfl rfl HT_ ?_;refine pu 3 (some 18) #[tt,tt,tt,tt,ff,ff,ff,ff,ff] rfl rfl HT_ ?_;refine pu 4 (some 19) #[tt,tt,tt,tt,tt,ff,ff,ff,ff] rfl rfl HT_ ?_;refine pu 5 (some 20) #[tt,tt,tt,tt,tt,tt,ff,ff,ff] rfl rfl HT_ ?_;refine pu 6 (some 21) #[tt,tt,tt,tt,tt,tt,tt,ff,ff] rfl rfl HT_ ?_;refine one_ (i:=7) (N:=some 7) #[tt,tt,tt,tt,tt,tt,tt,tt,ff] rfl rfl (one_of HT_.out (Z17)) (Z19) (fun K hK=>?_);refine box_step ?hg (N:=7) ?hd (cs:=#[.int .i64 0,.int .i64 0]) (t:=26) ?hr ?_;(case hd=>rfl);(case hg=>rfl);(case hr=>exact (Z9));intro gb174 hg w42 hbox hb;have BK174:=aM (hbox);have GW174:=aM ((zg hg (zs HB.out)));have GE174:=aM ((zg hg (zs HB.out)));replace HB:=aM (below_step (zs HB.out) hb);have NB170_174:=aM ((zl hg (zk BK170.out)));have NB174_170:=aM ((zm hg (zk BK170.out)));replace BK170:=aM (blk_below (g:=gb170) (o:=.cells #[.int .i64 0,.int .i64 0] 26 (0,0)) (zk BK170.out) hb);clear hb hbox hg;refine hK.out _ _ trivial (fun hHeld=>?_);clear hK K;refine norm_ (a':=?_) ?_ ?_;rotate_left
    ·show Act.put _ (some 7) _=_;simp only [Act.put,aQ,zQ,sQ,i64_w,i32_w];rfl
    refine one_ (i:=8) (N:=none) #[tt,tt,tt,tt,tt,tt,tt,tt,tt] rfl rfl (one_of HT_.out (Z17)) (Z19) (fun K hK=>?_);have hs43:w42.cell? ⟨gb174,0,none⟩=some (.int .i64 0):=(blk_cell BK174.out 0).trans rfl;have hfs43:=blk_frozen BK174.out 0;have hns43_0:=NB170_174.out;have hms43_0:=NB174_170.out;have hs44:w42.cell? ⟨gb174,1,none⟩=some (.int .i64 0):=(blk_cell BK174.out 1).trans rfl;have hfs44:=blk_frozen BK174.out 1;have hns44_0:=NB170_174.out;have hms44_0:=NB174_170.out;refine skip_ (w1:=?_) (Z83) rfl ?_ ?_;rotate_left
    ·go_simp;rfl
    refine hK.out _ _ trivial (fun hHeld=>?_);clear hK K;refine done_ (done_of HT_.out (Z17)) ?_;have hnb45:=NB174_170.out;have hnc45:=NB170_174.out;have hcz46_0:w42.cell? ⟨gb174,0,none⟩=some (.int .i64 0):=(blk_cell BK174.out 0).trans rfl;have hcz46_1:w42.cell? ⟨gb174,1,none⟩=some (.int .i64 0):=(blk_cell BK174.out 1).trans rfl;have hfz46_0:=blk_frozen BK174.out 0;have hfz46_1:=blk_frozen BK174.out 1;(try go_wp2_with (first|((with_reducible refine gate_callee (f:=74) rfl ?_);refine gm (some 23) Try.func74 #[.agg #[.int .i64 (wrap64 (Int.tdiv a0 t171)),.int .i64 (wrap64 (Int.tdiv a1 t171))]] ?_;(with_reducible refine (impl_IsRatio.calls k (wrap64 (Int.tdiv a0 t171)) (wrap64 (Int.tdiv a1 t171)) false _ A28.out).mono ?_);rintro e w47 ⟨rfl,hb⟩;refine ⟨_,rfl,?_⟩;replace BK170:=aM (blk_below (g:=gb170) (o:=.cells #[.int .i64 0,.int .i64 0] 26 (0,0)) (Z6 NB170_174.out BK170.out) hb);replace BK174:=aM (blk_below (g:=gb174) (o:=.cells #[.int .i64 (wrap64 (Int.tdiv a0 t171)),.int .i64 (wrap64 (Int.tdiv a1 t171))] 26 (0,0)) (Z31 BK174.out) hb);replace HB:=aM (below_step (zs HB.out) hb);(try clear hb);have hcz48_0:w47.cell? ⟨gb170,0,none⟩=some (.int .i64 0):=(blk_cell BK170.out 0).trans rfl;have hcz48_1:w47.cell? ⟨gb170,1,none⟩=some (.int .i64 0):=(blk_cell BK170.out 1).trans rfl;have hfz48_0:=blk_frozen BK170.out 0;have hfz48_1:=blk_frozen BK170.out 1)));refine bodyPost_ret (results_ct rfl _ _ gb170 26 #[.int .i64 0,.int .i64 0] (0,0) _ rfl (Z10 BK170.out) Try.underlying26 rfl (Z17)) rfl ?_;exact ⟨Z7,zs HB.out⟩
mutual
def impl_ValueOf.j0 : Nat → List Int → Int → List (List Int) → Bool → Option (Int × Int × Bool)
 | 0, _, _, _, _ => none
 | k + 1, x2, x8, x9, x33 => if x33 = true then (some (0, 0, false)) else (impl_ValueOf.l0 k x2 x8 0 1 x9 (x9.length : Int) 0)
def impl_ValueOf.l0 : Nat → List Int → Int → Int → Int → List (List Int) → Int → Int → Option (Int × Int × Bool)
 | 0, _, _, _, _, _, _, _ => none
 | k + 1, x2, x8, x11, x12, x35, x36, x37 => if x37 < x36 then (if 0 ≤ x37 then (if x37 < (x35.length : Int) then ((impl_lead.f k (rd_L1 x35 x37)).bind fun t183 => (if 0 ≤ t183 then (if t183 < ((rd_L1 x35 x37).length : Int) then (if t183 < (x2.length : Int) then (if 0 ≤ x8 then (if x8 < ((rd_L1 x35 x37).length : Int) then ((impl_gcd.f k (wrap64 ((wrap64 (x11 * (rd (rd_L1 x35 x37) t183))) + (wrap64 ((wrap64 ((rd x2 t183) * (rd (rd_L1 x35 x37) x8))) * x12)))) (wrap64 (x12 * (rd (rd_L1 x35 x37) t183)))).bind fun t188 => (if t188 = 0 then (none) else (impl_ValueOf.l0 k x2 x8 (wrap64 (Int.tdiv (wrap64 ((wrap64 (x11 * (rd (rd_L1 x35 x37) t183))) + (wrap64 ((wrap64 ((rd x2 t183) * (rd (rd_L1 x35 x37) x8))) * x12)))) t188)) (wrap64 (Int.tdiv (wrap64 (x12 * (rd (rd_L1 x35 x37) t183))) t188)) x35 x36 (wrap64 (x37 + 1))))) else (none)) else (none)) else (none)) else (none)) else (none))) else (none)) else (none)) else ((impl_reduced.f k x11 x12).bind fun bt189 => (some (bt189.1, bt189.2.1, bt189.2.2)))
end
def impl_ValueOf.f (k:Nat) (l0:List (List Int)) (l1:List Int) (l2:List Int):Option (Int × Int × Bool):=(impl_solved.f k l0 l1 (l2.length:Int)).bind fun bt177=>(if bt177.2=true then ((impl_IsInSpan.f k l0 l2).bind fun t181=>(impl_ValueOf.j0 k l2 (l2.length:Int) bt177.1 (!t181))) else (impl_ValueOf.j0 k l2 (l2.length:Int) bt177.1 true))
set_option maxHeartbeats 8000000 in
set_option maxRecDepth 100000 in
theorem impl_ValueOf.calls (k : Nat) (A0 : Option Addr) (c0 : Nat) (l0 : List (List Int)) (A1 : Option Addr) (c1 : Nat) (l1 : List Int) (A2 : Option Addr) (c2 : Nat) (l2 : List Int) (r1 : Int) (r2 : Int) (r3 : Bool) (w : World) (hr0 : Kd.C (Kd.slice 3 (Kd.int .i64)) w A0 l0.length l0) (hc0 : l0.length ≤ c0) (hr1 : Kd.C (Kd.int .i64) w A1 l1.length l1) (hc1 : l1.length ≤ c1) (hr2 : Kd.C (Kd.int .i64) w A2 l2.length l2) (hc2 : l2.length ≤ c2) (h : impl_ValueOf.f k l0 l1 l2 = some (r1, r2, r3)) :
 Calls Try.prog 19 #[.slice A0 l0.length c0, .slice A1 l1.length c1, .slice A2 l2.length c2] w fun e w' => e = .returned (.tuple #[.agg #[.int .i64 r1, .int .i64 r2], .bool r3]) ∧ Below w.heap.size w w' := by
 have hu26:=Try.underlying26;have HR0:=aM hr0;have HC0:=aM hc0;clear hr0 hc0;have HR1:=aM hr1;have HC1:=aM hc1;clear hr1 hc1;have HR2:=aM hr2;have HC2:=aM hc2;clear hr2 hc2;have HB:=aM (Below.refl w.heap.size w);have H:((impl_solved.f k l0 l1 (l2.length:Int)).bind fun bt177=>(if bt177.2=true then ((impl_IsInSpan.f k l0 l2).bind fun t181=>(impl_ValueOf.j0 k l2 (l2.length:Int) bt177.1 (!t181))) else (impl_ValueOf.j0 k l2 (l2.length:Int) bt177.1 true)))=some (r1,r2,r3):=h;clear h;obtain ⟨⟨t177,t180⟩,A4,H⟩:=bz H;dsimp only at H;have HC5:=aM H;clear H;go_enter Try.func19,Try.ntmps19;go_upto_region 3 with (first|((with_reducible refine gate_dst (N:=6) rfl ?_);refine box_event ?hg (N:=6) ?hd (cs:=#[.int .i64 0,.int .i64 0]) (t:=26) ?hr ?_;(case hd=>rfl);(case hg=>rfl);(case hr=>exact (Z9));intro gb176 hg w6 hbox hb;have BK176:=aM (hbox);have GW176:=aM ((zg hg (zb HB.out)));have GE176:=aM ((zg hg (zb HB.out)));replace HB:=aM (below_step (zb HB.out) hb);clear hb hbox hg)|(go_at_call 58;(with_reducible refine (impl_solved.calls k _ _ l0 _ _ l1 (l2.length:Int) t177 t180 _ ?side1 ?side2 ?side3 ?side4 A4.out).mono ?_);(case side1=>exact zc (Kd.C_below HR0.out HB.out));(case side2=>exact HC0.out);(case side3=>exact zc (Kd.C_below HR1.out HB.out));(case side4=>exact HC1.out);rintro e w7 ⟨v178,rfl,ho0,hb⟩;have HO179:=aM (Kd.N_lower (Kd.N_mono (ok':=fun k_=>k_≠gb176) ho0 (fun k_ hk_=>(Kd.freshB (g:=gb176) (o:=.cells #[.int .i64 0,.int .i64 0] 26 (0,0)) (zk BK176.out) k_ hk_))) (below_size (zs HB.out)));replace BK176:=aM (blk_below (g:=gb176) (o:=.cells #[.int .i64 0,.int .i64 0] 26 (0,0)) (zk BK176.out) hb);replace HB:=aM (below_step (zs HB.out) hb);(try clear hb);(try clear ho0)))
 (repeat (go_quiet (first|((with_reducible refine gate_dst (N:=6) rfl ?_);refine box_event ?hg (N:=6) ?hd (cs:=#[.int .i64 0,.int .i64 0]) (t:=26) ?hr ?_;(case hd=>rfl);(case hg=>rfl);(case hr=>exact (Z9));intro gb176 hg w6 hbox hb;have BK176:=aM (hbox);have GW176:=aM ((zg hg (zb HB.out)));have GE176:=aM ((zg hg (zb HB.out)));replace HB:=aM (below_step (zb HB.out) hb);clear hb hbox hg)|(go_at_call 58;(with_reducible refine (impl_solved.calls k _ _ l0 _ _ l1 (l2.length:Int) t177 t180 _ ?side1 ?side2 ?side3 ?side4 A4.out).mono ?_);(case side1=>exact zc (Kd.C_below HR0.out HB.out));(case side2=>exact HC0.out);(case side3=>exact zc (Kd.C_below HR1.out HB.out));(case side4=>exact HC1.out);rintro e w7 ⟨v178,rfl,ho0,hb⟩;have HO179:=aM (Kd.N_lower (Kd.N_mono (ok':=fun k_=>k_≠gb176) ho0 (fun k_ hk_=>(Kd.freshB (g:=gb176) (o:=.cells #[.int .i64 0,.int .i64 0] 26 (0,0)) (zk BK176.out) k_ hk_))) (below_size (zs HB.out)));replace BK176:=aM (blk_below (g:=gb176) (o:=.cells #[.int .i64 0,.int .i64 0] 26 (0,0)) (zk BK176.out) hb);replace HB:=aM (below_step (zs HB.out) hb);(try clear hb);(try clear ho0)));go_upto_region 3 with (first|((with_reducible refine gate_dst (N:=6) rfl ?_);refine box_event ?hg (N:=6) ?hd (cs:=#[.int .i64 0,.int .i64 0]) (t:=26) ?hr ?_;(case hd=>rfl);(case hg=>rfl);(case hr=>exact (Z9));intro gb176 hg w6 hbox hb;have BK176:=aM (hbox);have GW176:=aM ((zg hg (zb HB.out)));have GE176:=aM ((zg hg (zb HB.out)));replace HB:=aM (below_step (zb HB.out) hb);clear hb hbox hg)|(go_at_call 58;(with_reducible refine (impl_solved.calls k _ _ l0 _ _ l1 (l2.length:Int) t177 t180 _ ?side1 ?side2 ?side3 ?side4 A4.out).mono ?_);(case side1=>exact zc (Kd.C_below HR0.out HB.out));(case side2=>exact HC0.out);(case side3=>exact zc (Kd.C_below HR1.out HB.out));(case side4=>exact HC1.out);rintro e w7 ⟨v178,rfl,ho0,hb⟩;have HO179:=aM (Kd.N_lower (Kd.N_mono (ok':=fun k_=>k_≠gb176) ho0 (fun k_ hk_=>(Kd.freshB (g:=gb176) (o:=.cells #[.int .i64 0,.int .i64 0] 26 (0,0)) (zk BK176.out) k_ hk_))) (below_size (zs HB.out)));replace BK176:=aM (blk_below (g:=gb176) (o:=.cells #[.int .i64 0,.int .i64 0] 26 (0,0)) (zk BK176.out) hb);replace HB:=aM (below_step (zs HB.out) hb);(try clear hb);(try clear ho0)))));(try simp only [Act.put,aQ,zQ,sQ]);go_cut [33] (fun v33 wc=>∃(kq:Nat) (x33_4:Bool),v33 = .bool x33_4∧Aside0 (impl_ValueOf.j0 kq l2 (l2.length:Int) t177 x33_4=some (r1,r2,r3))∧Aside0 (kq≤k)∧Aside0 (Kd.N (Kd.slice 3 (Kd.int .i64)) 23 wc w.heap.size (fun k_=>k_≠gb176) v178 t177)∧Aside0 (wc.heap[gb176]?=some (.cells #[.int .i64 0,.int .i64 0] 26 (0,0)))∧Aside0 (Below w.heap.size w wc))
 case first=>
  have H:=HC5.out;clear HC5;by_cases c8:t180=true
  ·subst c8;replace H:=ifT H;obtain ⟨t181,A9,H⟩:=bz H;have H':=aM H;clear H;go_wp2_with (first|(go_at_call 30;(with_reducible refine (impl_IsInSpan.calls k _ _ l0 _ _ l2 t181 _ ?side1 ?side2 ?side3 ?side4 A9.out).mono ?_);(case side1=>exact zc (Kd.C_below HR0.out HB.out));(case side2=>exact HC0.out);(case side3=>exact zc (Kd.C_below HR2.out HB.out));(case side4=>exact HC2.out);rintro e w10 ⟨rfl,hb⟩;replace HO179:=aM (Kd.N_below (zn HO179.out) hb);replace BK176:=aM (blk_below (g:=gb176) (o:=.cells #[.int .i64 0,.int .i64 0] 26 (0,0)) (zk BK176.out) hb);replace HB:=aM (below_step (zs HB.out) hb);(try clear hb);(try clear hi)));(repeat (go_quiet (first|(go_at_call 30;(with_reducible refine (impl_IsInSpan.calls k _ _ l0 _ _ l2 t181 _ ?side1 ?side2 ?side3 ?side4 A9.out).mono ?_);(case side1=>exact zc (Kd.C_below HR0.out HB.out));(case side2=>exact HC0.out);(case side3=>exact zc (Kd.C_below HR2.out HB.out));(case side4=>exact HC2.out);rintro e w10 ⟨rfl,hb⟩;replace HO179:=aM (Kd.N_below (zn HO179.out) hb);replace BK176:=aM (blk_below (g:=gb176) (o:=.cells #[.int .i64 0,.int .i64 0] 26 (0,0)) (zk BK176.out) hb);replace HB:=aM (below_step (zs HB.out) hb);(try clear hb);(try clear hi)));try go_wp2_with (first|(go_at_call 30;(with_reducible refine (impl_IsInSpan.calls k _ _ l0 _ _ l2 t181 _ ?side1 ?side2 ?side3 ?side4 A9.out).mono ?_);(case side1=>exact zc (Kd.C_below HR0.out HB.out));(case side2=>exact HC0.out);(case side3=>exact zc (Kd.C_below HR2.out HB.out));(case side4=>exact HC2.out);rintro e w10 ⟨rfl,hb⟩;replace HO179:=aM (Kd.N_below (zn HO179.out) hb);replace BK176:=aM (blk_below (g:=gb176) (o:=.cells #[.int .i64 0,.int .i64 0] 26 (0,0)) (zk BK176.out) hb);replace HB:=aM (below_step (zs HB.out) hb);(try clear hb);(try clear hi)))));go_meet;(case rel=>exact ⟨_,(!t181),zt,H',⟨Z40⟩,⟨zn HO179.out⟩,⟨zk BK176.out⟩,⟨zs HB.out⟩⟩)
  ·replace c8:=Bool.eq_false_iff.mpr c8;subst c8;replace H:=ifF H;have H':=aM H;clear H;go_wp2;(repeat (go_quiet (fail);try go_wp2));go_meet;(case rel=>exact ⟨_,(true),zt,H',⟨Z40⟩,⟨zn HO179.out⟩,⟨zk BK176.out⟩,⟨zs HB.out⟩⟩)
 case rest=>
  clear HC5;(try clear c1);(try clear c2);(try clear c8);obtain ⟨kq,x33_4,rfl,HA,HJ4,HO_9,BK176,HB⟩:=hcut;cases kq with
  | zero=>exact absurd HA.out (by simp [impl_ValueOf.j0])
  | succ kj4=>
   have H:=HA.out;clear HA;simp only [impl_ValueOf.j0] at H;by_cases c11:x33_4=true
   ·subst c11;replace H:=ifT H;simp only [Option.some.injEq,Prod.mk.injEq] at H;obtain ⟨rfl,rfl,rfl⟩:=H;have hcz12_0:wc.cell? ⟨gb176,0,none⟩=some (.int .i64 0):=(blk_cell BK176.out 0).trans rfl;have hcz12_1:wc.cell? ⟨gb176,1,none⟩=some (.int .i64 0):=(blk_cell BK176.out 1).trans rfl;have hfz12_0:=blk_frozen BK176.out 0;have hfz12_1:=blk_frozen BK176.out 1;go_wp2;(repeat (go_quiet (fail);try go_wp2));refine bodyPost_ret (results_ct rfl _ _ gb176 26 #[.int .i64 0,.int .i64 0] (0,0) _ rfl (Z10 BK176.out) Try.underlying26 rfl (Z17)) rfl ?_;exact ⟨Z7,zs HB.out⟩
   ·replace c11:=Bool.eq_false_iff.mpr c11;subst c11;replace H:=ifF H;have H':=aM H;clear H;obtain ⟨Ao13,co13,eo13⟩:=Kd.N_slice HO_9.out;subst eo13;go_wp2;(repeat (go_quiet (fail);try go_wp2));go_loopg [11,12,37] kj4 (fun kq v11 v12 v37 w'=>∃(x11_2:Int) (x12_2:Int) (x37_2:Int),v11 = .int .i64 x11_2∧v12 = .int .i64 x12_2∧v37 = .int .i64 x37_2∧Aside0 (impl_ValueOf.l0 kq l2 (l2.length:Int) x11_2 x12_2 t177 (t177.length:Int) x37_2=some (r1,r2,r3))∧Aside0 (kq≤kj4)∧Aside0 (Kd.N (Kd.slice 3 (Kd.int .i64)) 23 w' w.heap.size (fun k_=>k_≠gb176) (.slice Ao13 t177.length co13) t177)∧Aside0 (w'.heap[gb176]?=some (.cells #[.int .i64 0,.int .i64 0] 26 (0,0)))∧Aside0 (Below w.heap.size w w'));(case atStart=>exact ⟨(0),(1),(0),zt,zt,zt,H',⟨Nat.le_refl _⟩,⟨zn HO_9.out⟩,⟨zk BK176.out⟩,⟨zs HB.out⟩⟩)
    case round=>
     clear H';(try clear c1);(try clear c2);(try clear c8);(try clear c11);(try clear hcz12_0);(try clear hcz12_1);(try clear hfz12_0);(try clear hfz12_1);obtain ⟨x11_2,x12_2,x37_2,rfl,rfl,rfl,HA,HK2,HO_35,BK176,HB⟩:=hrel;cases gk with
     | zero=>exact absurd HA.out (by simp [impl_ValueOf.l0])
     | succ k2=>
      have H:=HA.out;clear HA;simp only [impl_ValueOf.l0] at H;by_cases c14:x37_2<(t177.length:Int)
      ·rw [if_pos c14] at H;have c14b0:decide (x37_2<(t177.length:Int))=true:=decide_eq_true c14;clear c14;obtain ⟨c15b0,H⟩:=iN H;obtain ⟨c16b0,H⟩:=iN H;obtain ⟨t183,A17,H⟩:=bz H;obtain ⟨c18b0,H⟩:=iN H;obtain ⟨c19b0,H⟩:=iN H;obtain ⟨c20b0,H⟩:=iN H;obtain ⟨c21b0,H⟩:=iN H;have c21:=of_decide_eq_true c21b0;have c21b1:decide (0≤l2.length)=true:=decide_eq_true (Z47);clear c21;obtain ⟨c22b0,H⟩:=iN H;have c22:=of_decide_eq_true c22b0;have c22b1:decide (l2.length<(rd_L1 t177 x37_2).length)=true:=decide_eq_true (Int.ofNat_lt.mp c22);clear c22;obtain ⟨t188,A23,H⟩:=bz H;by_cases c24:t188=0
       ·rw [if_pos c24] at H;exact absurd H (Z81)
       ·rw [if_neg c24] at H;have c24b0:(t188 == 0)=false:=beq_eq_false_iff_ne.mpr c24;have c24b1:(t188 != 0)=true:=bne_iff_ne.mpr c24;have H':=aM H;clear H;have p182:0≤(x37_2:Int):=zd;have q182:x37_2<(t177.length:Int):=zd;obtain ⟨ad182,A182_0,c182_0,e182,hx182_0,hl182_0,hi182_0⟩:=at_L1 (Kd.N_reads' HO_35.out).2.2 x37_2 p182 q182;cases e182;obtain ⟨ce182,hce182,hMe182,hcc182⟩:=Kd.N_get HO_35.out [] x37_2 p182 (Z20 q182 HO_35.out);obtain ⟨ua182_0,uc182_0,rfl,ul182_0,ge182_0⟩:=Kd.FK_slice_open hMe182;have hv182_0:=hcc182 0 _ rfl;rw [Nat.add_zero,show ((Kd.slice 3 (Kd.int .i64))).sz=1 from rfl,Nat.mul_one] at hv182_0;replace hv182_0:=Option.some.inj (hv182_0.symm.trans hx182_0);injection hv182_0 with hva_ hvn_ hvc_
        rw [hva_] at ge182_0;rw [hvc_] at ul182_0;have HL182_0:=aM (show Kd.V (Kd.int .i64) 3 _ w.heap.size _ _ (rd_L1 t177 x37_2) from Kd.V_mk ul182_0 ge182_0);clear hva_ hvn_ hvc_ ge182_0 ul182_0 hcc182 hce182;have HR182_0:=aM hi182_0;have HC182_0:=aM hl182_0;clear hi182_0 hl182_0;replace p182:=eq_true p182;replace q182:=eq_true q182;go_wp2_with (first|(go_at_call 59;(with_reducible refine (impl_lead.calls k2 _ _ (rd_L1 t177 x37_2) t183 _ ?side1 ?side2 A17.out).mono ?_);(case side1=>exact zc HR182_0.out);(case side2=>exact HC182_0.out);rintro e w' ⟨rfl,⟨nd,rfl⟩⟩;(try first|exact ⟨rfl,_,World.drewN_drewN _ _ _⟩|exact ⟨rfl,_,Eq.trans (World.drewN_drewN _ _ _) (congrArg (World.drewN _) (Nat.add_assoc _ _ _))⟩);have p184:0≤(t183:Int):=zd;have q184:t183<((rd_L1 t177 x37_2).length:Int):=zd;obtain ⟨ad184,e184,hx184_0⟩:=Kd.at_int (zc HR182_0.out) t183 p184 q184;cases e184;replace p184:=eq_true p184;replace q184:=eq_true q184;have p185:0≤(t183:Int):=zd;have q185:t183<(l2.length:Int):=zd;obtain ⟨ad185,e185,hx185_0⟩:=Kd.at_int HR2.out t183 p185 q185;cases e185;replace hx185_0:=zx HB.out hx185_0;replace p185:=eq_true p185;replace q185:=eq_true q185;have p186:0≤((l2.length:Int):Int):=zd;have q186:(l2.length:Int)<((rd_L1 t177 x37_2).length:Int):=zd;obtain ⟨ad186,e186,hx186_0⟩:=Kd.at_int (zc HR182_0.out) (l2.length:Int) p186 q186;obtain rfl:ad184=ad186:=(by injection e186);(try simp only [Go.IntWalk.toNatUp] at hx186_0);replace p186:=eq_true p186;replace q186:=eq_true q186;have p187:0≤(t183:Int):=zd;have q187:t183<((rd_L1 t177 x37_2).length:Int):=zd;obtain ⟨ad187,e187,hx187_0⟩:=Kd.at_int (zc HR182_0.out) t183 p187 q187;obtain rfl:ad184=ad187:=(by injection e187);replace p187:=eq_true p187;replace q187:=eq_true q187)|(go_at_call 60;(with_reducible refine (impl_gcd.calls k2 (wrap64 ((wrap64 (x11_2*(rd (rd_L1 t177 x37_2) t183)))+(wrap64 ((wrap64 ((rd l2 t183)*(rd (rd_L1 t177 x37_2) (l2.length:Int))))*x12_2)))) (wrap64 (x12_2*(rd (rd_L1 t177 x37_2) t183))) t188 _ A23.out).mono ?_);rintro e w' ⟨rfl,⟨nd,rfl⟩⟩;(try first|exact ⟨rfl,_,World.drewN_drewN _ _ _⟩|exact ⟨rfl,_,Eq.trans (World.drewN_drewN _ _ _) (congrArg (World.drewN _) (Nat.add_assoc _ _ _))⟩)));(repeat (go_quiet (first|(go_at_call 59;(with_reducible refine (impl_lead.calls k2 _ _ (rd_L1 t177 x37_2) t183 _ ?side1 ?side2 A17.out).mono ?_);(case side1=>exact zc HR182_0.out);(case side2=>exact HC182_0.out);rintro e w' ⟨rfl,⟨nd,rfl⟩⟩;(try first|exact ⟨rfl,_,World.drewN_drewN _ _ _⟩|exact ⟨rfl,_,Eq.trans (World.drewN_drewN _ _ _) (congrArg (World.drewN _) (Nat.add_assoc _ _ _))⟩);have p184:0≤(t183:Int):=zd;have q184:t183<((rd_L1 t177 x37_2).length:Int):=zd;obtain ⟨ad184,e184,hx184_0⟩:=Kd.at_int (zc HR182_0.out) t183 p184 q184;cases e184;replace p184:=eq_true p184;replace q184:=eq_true q184;have p185:0≤(t183:Int):=zd;have q185:t183<(l2.length:Int):=zd;obtain ⟨ad185,e185,hx185_0⟩:=Kd.at_int HR2.out t183 p185 q185;cases e185;replace hx185_0:=zx HB.out hx185_0;replace p185:=eq_true p185;replace q185:=eq_true q185;have p186:0≤((l2.length:Int):Int):=zd;have q186:(l2.length:Int)<((rd_L1 t177 x37_2).length:Int):=zd;obtain ⟨ad186,e186,hx186_0⟩:=Kd.at_int (zc HR182_0.out) (l2.length:Int) p186 q186;obtain rfl:ad184=ad186:=(by injection e186);(try simp only [Go.IntWalk.toNatUp] at hx186_0);replace p186:=eq_true p186;replace q186:=eq_true q186;have p187:0≤(t183:Int):=zd;have q187:t183<((rd_L1 t177 x37_2).length:Int):=zd;obtain ⟨ad187,e187,hx187_0⟩:=Kd.at_int (zc HR182_0.out) t183 p187 q187;obtain rfl:ad184=ad187:=(by injection e187);replace p187:=eq_true p187;replace q187:=eq_true q187)|(go_at_call 60;(with_reducible refine (impl_gcd.calls k2 (wrap64 ((wrap64 (x11_2*(rd (rd_L1 t177 x37_2) t183)))+(wrap64 ((wrap64 ((rd l2 t183)*(rd (rd_L1 t177 x37_2) (l2.length:Int))))*x12_2)))) (wrap64 (x12_2*(rd (rd_L1 t177 x37_2) t183))) t188 _ A23.out).mono ?_);rintro e w' ⟨rfl,⟨nd,rfl⟩⟩;(try first|exact ⟨rfl,_,World.drewN_drewN _ _ _⟩|exact ⟨rfl,_,Eq.trans (World.drewN_drewN _ _ _) (congrArg (World.drewN _) (Nat.add_assoc _ _ _))⟩)));try go_wp2_with (first|(go_at_call 59;(with_reducible refine (impl_lead.calls k2 _ _ (rd_L1 t177 x37_2) t183 _ ?side1 ?side2 A17.out).mono ?_);(case side1=>exact zc HR182_0.out);(case side2=>exact HC182_0.out);rintro e w' ⟨rfl,⟨nd,rfl⟩⟩;(try first|exact ⟨rfl,_,World.drewN_drewN _ _ _⟩|exact ⟨rfl,_,Eq.trans (World.drewN_drewN _ _ _) (congrArg (World.drewN _) (Nat.add_assoc _ _ _))⟩);have p184:0≤(t183:Int):=zd;have q184:t183<((rd_L1 t177 x37_2).length:Int):=zd;obtain ⟨ad184,e184,hx184_0⟩:=Kd.at_int (zc HR182_0.out) t183 p184 q184;cases e184;replace p184:=eq_true p184;replace q184:=eq_true q184;have p185:0≤(t183:Int):=zd;have q185:t183<(l2.length:Int):=zd;obtain ⟨ad185,e185,hx185_0⟩:=Kd.at_int HR2.out t183 p185 q185;cases e185;replace hx185_0:=zx HB.out hx185_0;replace p185:=eq_true p185;replace q185:=eq_true q185;have p186:0≤((l2.length:Int):Int):=zd;have q186:(l2.length:Int)<((rd_L1 t177 x37_2).length:Int):=zd;obtain ⟨ad186,e186,hx186_0⟩:=Kd.at_int (zc HR182_0.out) (l2.length:Int) p186 q186;obtain rfl:ad184=ad186:=(by injection e186);(try simp only [Go.IntWalk.toNatUp] at hx186_0);replace p186:=eq_true p186;replace q186:=eq_true q186;have p187:0≤(t183:Int):=zd;have q187:t183<((rd_L1 t177 x37_2).length:Int):=zd;obtain ⟨ad187,e187,hx187_0⟩:=Kd.at_int (zc HR182_0.out) t183 p187 q187;obtain rfl:ad184=ad187:=(by injection e187);replace p187:=eq_true p187;replace q187:=eq_true q187)|(go_at_call 60;(with_reducible refine (impl_gcd.calls k2 (wrap64 ((wrap64 (x11_2*(rd (rd_L1 t177 x37_2) t183)))+(wrap64 ((wrap64 ((rd l2 t183)*(rd (rd_L1 t177 x37_2) (l2.length:Int))))*x12_2)))) (wrap64 (x12_2*(rd (rd_L1 t177 x37_2) t183))) t188 _ A23.out).mono ?_);rintro e w' ⟨rfl,⟨nd,rfl⟩⟩;(try first|exact ⟨rfl,_,World.drewN_drewN _ _ _⟩|exact ⟨rfl,_,Eq.trans (World.drewN_drewN _ _ _) (congrArg (World.drewN _) (Nat.add_assoc _ _ _))⟩)))));go_roundg k2;(case measure=>have:=HJ4.out;have:=HK2.out;omega);(case rel=>exact ⟨(wrap64 (Int.tdiv (wrap64 ((wrap64 (x11_2*(rd (rd_L1 t177 x37_2) t183)))+(wrap64 ((wrap64 ((rd l2 t183)*(rd (rd_L1 t177 x37_2) (l2.length:Int))))*x12_2)))) t188)),(wrap64 (Int.tdiv (wrap64 (x12_2*(rd (rd_L1 t177 x37_2) t183))) t188)),(wrap64 (x37_2+1)),zt,zt,zt,H',⟨Z87 HJ4.out HK2.out⟩,⟨zn HO_35.out⟩,⟨zk BK176.out⟩,⟨zs HB.out⟩⟩)
      ·rw [if_neg c14] at H;have c14b0:decide (x37_2<(t177.length:Int))=false:=decide_eq_false c14;clear c14;obtain ⟨⟨t189,t190,t191⟩,A25,H⟩:=bz H;dsimp only at H;simp only [Option.some.injEq,Prod.mk.injEq] at H;obtain ⟨rfl,rfl,rfl⟩:=H;go_wp2_with (first|(go_at_call 61;(with_reducible refine (impl_reduced.calls k2 x11_2 x12_2 t189 t190 t191 _ A25.out).mono ?_);rintro e w26 ⟨rfl,hb⟩;replace HO_35:=aM (Kd.N_below (zn HO_35.out) hb);replace BK176:=aM (blk_below (g:=gb176) (o:=.cells #[.int .i64 0,.int .i64 0] 26 (0,0)) (zk BK176.out) hb);replace HB:=aM (below_step (zs HB.out) hb);(try clear hb);have hcz27_0:w26.cell? ⟨gb176,0,none⟩=some (.int .i64 0):=(blk_cell BK176.out 0).trans rfl;have hcz27_1:w26.cell? ⟨gb176,1,none⟩=some (.int .i64 0):=(blk_cell BK176.out 1).trans rfl;have hfz27_0:=blk_frozen BK176.out 0;have hfz27_1:=blk_frozen BK176.out 1));(repeat (go_quiet (first|(go_at_call 61;(with_reducible refine (impl_reduced.calls k2 x11_2 x12_2 t189 t190 t191 _ A25.out).mono ?_);rintro e w26 ⟨rfl,hb⟩;replace HO_35:=aM (Kd.N_below (zn HO_35.out) hb);replace BK176:=aM (blk_below (g:=gb176) (o:=.cells #[.int .i64 0,.int .i64 0] 26 (0,0)) (zk BK176.out) hb);replace HB:=aM (below_step (zs HB.out) hb);(try clear hb);have hcz27_0:w26.cell? ⟨gb176,0,none⟩=some (.int .i64 0):=(blk_cell BK176.out 0).trans rfl;have hcz27_1:w26.cell? ⟨gb176,1,none⟩=some (.int .i64 0):=(blk_cell BK176.out 1).trans rfl;have hfz27_0:=blk_frozen BK176.out 0;have hfz27_1:=blk_frozen BK176.out 1));try go_wp2_with (first|(go_at_call 61;(with_reducible refine (impl_reduced.calls k2 x11_2 x12_2 t189 t190 t191 _ A25.out).mono ?_);rintro e w26 ⟨rfl,hb⟩;replace HO_35:=aM (Kd.N_below (zn HO_35.out) hb);replace BK176:=aM (blk_below (g:=gb176) (o:=.cells #[.int .i64 0,.int .i64 0] 26 (0,0)) (zk BK176.out) hb);replace HB:=aM (below_step (zs HB.out) hb);(try clear hb);have hcz27_0:w26.cell? ⟨gb176,0,none⟩=some (.int .i64 0):=(blk_cell BK176.out 0).trans rfl;have hcz27_1:w26.cell? ⟨gb176,1,none⟩=some (.int .i64 0):=(blk_cell BK176.out 1).trans rfl;have hfz27_0:=blk_frozen BK176.out 0;have hfz27_1:=blk_frozen BK176.out 1))));refine bodyPost_ret (results_ct rfl _ _ gb176 26 #[.int .i64 t189,.int .i64 t190] (0,0) _ rfl (by (with_reducible repeat (first|refine blk_drewN ?_ _|refine blk_drew ?_|refine blk_alloc ?_ _));refine blk_put (cs:=#[.int .i64 t189,.int .i64 0]) ?_ 1 _ rfl;(with_reducible repeat (first|refine blk_drewN ?_ _|refine blk_drew ?_|refine blk_alloc ?_ _));refine blk_put (cs:=#[.int .i64 0,.int .i64 0]) ?_ 0 _ rfl;(with_reducible repeat (first|refine blk_drewN ?_ _|refine blk_drew ?_|refine blk_alloc ?_ _));exact BK176.out) Try.underlying26 rfl (Z17)) rfl ?_;exact ⟨Z7,zs HB.out⟩
end Go.Proofs.Ytojkepidkmkmpaa.PFnSolved
end
