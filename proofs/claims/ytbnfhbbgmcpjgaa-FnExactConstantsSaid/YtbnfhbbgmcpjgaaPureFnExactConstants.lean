/- The law FnExactConstants answers true; no condition. -/
import Derived.Test.YtbnfhbbgmcpjgaaPFnExactConstantsx1
namespace Go.Proofs.Ytbnfhbbgmcpjgaa.Pure
open Go.RowKit Go.Proofs.Ytbnfhbbgmcpjgaa.PFnExactConstants Go.Proofs.YtbnfhbbgmcpjgaaW.PrintWords Go.Proofs.YtbnfhbbgmcpjgaaW.PrintLast Go.Proofs.YtbnfhbbgmcpjgaaW.PrintMore

theorem FnExactConstants : laws_FnExactConstants.Pure := by
  unfold laws_FnExactConstants.Pure laws_FnExactConstants.f
  rfl
end Go.Proofs.Ytbnfhbbgmcpjgaa.Pure
