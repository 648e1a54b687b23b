/-
  For all arguments, the program's CeilDiv returns what the reference's CeilDiv returns.
  Conditions: none beside the given statement's own.
-/
import Derived.Test.YtpagfepoekbohaaPFnExactCeilDivx1
namespace Go.Proofs.Ytpagfepoekbohaa.Pure
open Go.RowKit Go.Proofs.Ytpagfepoekbohaa.PFnExactCeilDiv Go.Proofs.YtpagfepoekbohaaW.PrintWords Go.Proofs.YtpagfepoekbohaaW.PrintLast Go.Proofs.YtpagfepoekbohaaW.PrintMore

theorem l1In_eq (a b c : Int) : spec_l1In.f a b c = some (decide (b ≤ a ∧ a ≤ c)) := by
  unfold spec_l1In.f
  by_cases h : a ≥ b
  · rw [if_pos h]; congr 1; by_cases h2 : a ≤ c <;> simp [h2] <;> omega
  · rw [if_neg h]; congr 1; simp; omega
theorem InRange_eq (a b c : Int) : impl_InRange.f a b c = some (decide (b ≤ a ∧ a ≤ c)) := by
  unfold impl_InRange.f
  by_cases h : b ≤ a
  · rw [if_pos h]; congr 1; by_cases h2 : a ≤ c <;> simp [h2] <;> omega
  · rw [if_neg h]; congr 1; simp; omega

theorem FnExactCeilDiv : laws_FnExactCeilDiv.Pure := by
  intro a b _ _
  have h : spec_CeilDiv.f a b = impl_CeilDiv.f a b := by
    unfold spec_CeilDiv.f impl_CeilDiv.f
    simp only [l1In_eq, InRange_eq]
  have hs : ∃ r, impl_CeilDiv.f a b = some r := by
    unfold impl_CeilDiv.f
    simp only [InRange_eq, Option.bind_some]
    split
    · split
      · rename_i h1 h2
        simp at h2
        rw [if_neg (by omega)]
        exact ⟨_, rfl⟩
      · exact ⟨_, rfl⟩
    · exact ⟨_, rfl⟩
  obtain ⟨r, hr⟩ := hs
  unfold laws_FnExactCeilDiv.f
  rw [h, hr]
  simp

end Go.Proofs.Ytpagfepoekbohaa.Pure
