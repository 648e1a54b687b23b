/-
  For all arguments, the program's Min returns what the reference's Min returns.
  Conditions: none beside the given statement's own.
-/
import Derived.Test.YtpagfepoekbohaaPFnExactMinx1
namespace Go.Proofs.Ytpagfepoekbohaa.Pure
open Go.RowKit Go.Proofs.Ytpagfepoekbohaa.PFnExactMin Go.Proofs.YtpagfepoekbohaaW.PrintWords Go.Proofs.YtpagfepoekbohaaW.PrintLast Go.Proofs.YtpagfepoekbohaaW.PrintMore

theorem FnExactMin : laws_FnExactMin.Pure := by
  intro a b _ _
  unfold laws_FnExactMin.f spec_Min.f impl_Min.f mn
  by_cases h : b < a
  · rw [if_pos h, if_pos (by omega)]; simp
  · rw [if_neg h, if_neg (by omega)]; simp

end Go.Proofs.Ytpagfepoekbohaa.Pure
