/-
  What a slice of slices of numbers that came in holds, in the words of the walks.
  Conditions: none of its own.
-/
import Derived.Test.YticigcjojpdapaaDoorWMore
import Derived.Deep.Matrix
import Derived.ProofKit
import Derived.OpenShut
set_option linter.unusedVariables false
namespace Go.Proofs.YticigcjojpdapaaDoor.Open
open Go.ChangeShapes Go.WideShapes Go.ChangeAt Go.RowKit Go.Deep Go.Proofs.YticigcjojpdapaaDoorW.PrintWords
theorem open_SS {H : Type} {enc : TypeId × Value → H} {P : Program} {W : World} {base b0 : Nat} {held : Bool} {rch : Reach} {t e q : TypeId} (ht : P.underlying t = some (.slice e)) (he : P.underlying e = some (.slice q)) (hq : P.underlying q = some (.int .i64))
    (ce : P.cellsOf e = 1) (cq : P.cellsOf q = 1) {v : Value} {d : DataW H} {ps : List MemPlace} (hv : Value.okWide P W rch b0 t v) (h : DataW.Trod enc P W base (fun _ => true) held t v d ps) :
    ∃ (a : Option Addr) (c : Nat) (l : List (List Int)), v = .slice a l.length c ∧ l.length ≤ c ∧ l.length ≤ maxLen ∧ Kd.C (Kd.slice q (Kd.int .i64)) W a l.length l ∧ ∀ r ∈ l, r.length ≤ maxLen ∧ ∀ x ∈ r, (Lit.int .i64 x).wf = true := by
  obtain ⟨a0, len0, cap0, rfl⟩ := okWide_slice ht hv
  obtain ⟨fuel, hf⟩ := h
  rcases open_int_rows ht he hq ce cq hf with ⟨hcs, _⟩ | ⟨x, len, cap, A, L, C, Z, hcs, _, hl, hm, _, hcell⟩
  · simp [Value.cells] at hcs
    obtain ⟨rfl, rfl, rfl⟩ := hcs
    exact ⟨none, 0, [], rfl, Nat.le_refl _, Nat.zero_le _, ⟨rfl, by simp, fun h => absurd h (by simp)⟩, by simp⟩
  · simp [Value.cells] at hcs
    obtain ⟨rfl, rfl, rfl⟩ := hcs
    have hlen : ((List.range len0).map fun r => (Z r).take (L r)).length = len0 := by simp
    refine ⟨some x, cap0, (List.range len0).map fun r => (Z r).take (L r), by rw [hlen], by omega, by omega, ?_, ?_⟩
    · refine ⟨rfl, by rw [hlen]; unfold maxLen at hm; omega, fun _ => ⟨x, rfl, fun j p hj => ?_⟩⟩
      have hj' : j < len0 := by
        have := (List.getElem?_eq_some_iff.1 hj).1
        omega
      obtain ⟨h1, h2, h3, h4, h5, h6, h7⟩ := hcell j (by omega)
      have hp : p = (Z j).take (L j) := by
        rw [List.getElem?_map, List.getElem?_range hj'] at hj
        simpa using hj.symm
      have hpl : p.length = L j := by rw [hp, List.length_take]; omega
      refine ⟨[.slice (A j) (L j) (C j)], rfl, ⟨A j, C j, by rw [hpl], by omega, ?_⟩, fun i u hu => ?_⟩
      · refine Kd.C_of_reads (d := (0 : Int)) (h1 := fun _ => rfl) ⟨rfl, by rw [hpl]; unfold maxLen at h3; omega, fun hn => ?_⟩
        cases hA : A j with
        | none => exact absurd (h6 hA) (by omega)
        | some a' =>
          refine ⟨a', rfl, fun i hi => ?_⟩
          rw [(h7 a' hA).2 i (by omega), hp]
          congr 2
          rw [List.getD_eq_getElem?_getD, List.getD_eq_getElem?_getD, List.getElem?_take, if_pos (by omega)]
      · cases i with
        | zero =>
          simp at hu
          rw [← hu]
          show W.cell? (x.add (j * 1 + 0)) = _
          rw [Nat.mul_one]
          exact h1
        | succ i => simp at hu
    · intro r hr
      obtain ⟨j, hj, rfl⟩ := List.mem_map.1 hr
      obtain ⟨h1, h2, h3, h4, h5, h6, h7⟩ := hcell j (by have := List.mem_range.1 hj; omega)
      exact ⟨by rw [List.length_take]; omega, fun y hy => h5 y (List.mem_of_mem_take hy)⟩
end Go.Proofs.YticigcjojpdapaaDoor.Open
