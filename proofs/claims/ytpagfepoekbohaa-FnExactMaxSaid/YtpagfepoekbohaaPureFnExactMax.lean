/-
  For all arguments, the program's Max returns what the reference's Max returns.
  Conditions: none beside the given statement's own.
-/
import Derived.Test.YtpagfepoekbohaaPFnExactMaxx1
namespace Go.Proofs.Ytpagfepoekbohaa.Pure
open Go.RowKit Go.Proofs.Ytpagfepoekbohaa.PFnExactMax Go.Proofs.YtpagfepoekbohaaW.PrintWords Go.Proofs.YtpagfepoekbohaaW.PrintLast Go.Proofs.YtpagfepoekbohaaW.PrintMore

theorem FnExactMax : laws_FnExactMax.Pure := by
  intro a b _ _
  unfold laws_FnExactMax.f spec_Max.f impl_Max.f mx
  by_cases h : a < b
  · rw [if_pos h, if_pos (by omega)]; simp
  · rw [if_neg h, if_neg (by omega)]; simp

end Go.Proofs.Ytpagfepoekbohaa.Pure
