/- The law FnExactBrought answers true at all three numbers; no condition. -/
import Derived.Test.YtbnfhbbgmcpjgaaPFnExactBroughtx1
namespace Go.Proofs.Ytbnfhbbgmcpjgaa.Pure
open Go.RowKit Go.Proofs.Ytbnfhbbgmcpjgaa.PFnExactBrought Go.Proofs.YtbnfhbbgmcpjgaaW.PrintWords Go.Proofs.YtbnfhbbgmcpjgaaW.PrintLast Go.Proofs.YtbnfhbbgmcpjgaaW.PrintMore

theorem FnExactBrought : laws_FnExactBrought.Pure := by
  intro a b c _ _ _
  refine ⟨3, ?_⟩
  simp only [laws_FnExactBrought.f, spec_Brought.f, spec_Brought.j0, impl_Brought.f, mx, mn]
  repeat' split
  all_goals first | rfl | (simp_all <;> omega)
end Go.Proofs.Ytbnfhbbgmcpjgaa.Pure
