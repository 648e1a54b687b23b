/-
  For all arguments, the program's InRange returns what the reference's InRange returns.
  Conditions: none beside the given statement's own.
-/
import Derived.Test.YtpagfepoekbohaaPFnExactInRangex1
namespace Go.Proofs.Ytpagfepoekbohaa.Pure
open Go.RowKit Go.Proofs.Ytpagfepoekbohaa.PFnExactInRange Go.Proofs.YtpagfepoekbohaaW.PrintWords Go.Proofs.YtpagfepoekbohaaW.PrintLast Go.Proofs.YtpagfepoekbohaaW.PrintMore

theorem FnExactInRange : laws_FnExactInRange.Pure := by
  intro a b c _ _ _
  have h : spec_InRange.f a b c = impl_InRange.f a b c := by
    unfold spec_InRange.f impl_InRange.f
    by_cases h : b ≤ a
    · rw [if_pos h]
    · rw [if_neg h]
  obtain ⟨r, hr⟩ : ∃ r, impl_InRange.f a b c = some r := by unfold impl_InRange.f; split <;> exact ⟨_, rfl⟩
  unfold laws_FnExactInRange.f
  rw [h, hr]
  simp

end Go.Proofs.Ytpagfepoekbohaa.Pure
