/-
  For all arguments, the program's Mod returns what the reference's Mod returns.
  Conditions: none beside the given statement's own.
-/
import Derived.Test.YtpagfepoekbohaaPFnExactModx1
namespace Go.Proofs.Ytpagfepoekbohaa.Pure
open Go.RowKit Go.Proofs.Ytpagfepoekbohaa.PFnExactMod Go.Proofs.YtpagfepoekbohaaW.PrintWords Go.Proofs.YtpagfepoekbohaaW.PrintLast Go.Proofs.YtpagfepoekbohaaW.PrintMore

theorem l1In_eq (a b c : Int) : spec_l1In.f a b c = some (decide (b ≤ a ∧ a ≤ c)) := by
  unfold spec_l1In.f
  by_cases h : a ≥ b
  · rw [if_pos h]; congr 1; by_cases h2 : a ≤ c <;> simp [h2] <;> omega
  · rw [if_neg h]; congr 1; simp; omega
theorem InRange_eq (a b c : Int) : impl_InRange.f a b c = some (decide (b ≤ a ∧ a ≤ c)) := by
  unfold impl_InRange.f
  by_cases h : b ≤ a
  · rw [if_pos h]; congr 1; by_cases h2 : a ≤ c <;> simp [h2] <;> omega
  · rw [if_neg h]; congr 1; simp; omega

theorem Mod_same (a b : Int) : spec_Mod.f a b = impl_Mod.f a b := by
  unfold spec_Mod.f impl_Mod.f
  simp only [l1In_eq, InRange_eq]
theorem Mod_some (a b : Int) : ∃ r, impl_Mod.f a b = some r := by
  unfold impl_Mod.f
  simp only [InRange_eq, Option.bind_some]
  split
  · rename_i h
    simp at h
    rw [if_neg (by omega)]
    exact ⟨_, rfl⟩
  · exact ⟨_, rfl⟩

theorem FnExactMod : laws_FnExactMod.Pure := by
  intro a b _ _
  obtain ⟨r, hr⟩ := Mod_some a b
  unfold laws_FnExactMod.f
  rw [Mod_same, hr]
  simp

end Go.Proofs.Ytpagfepoekbohaa.Pure
