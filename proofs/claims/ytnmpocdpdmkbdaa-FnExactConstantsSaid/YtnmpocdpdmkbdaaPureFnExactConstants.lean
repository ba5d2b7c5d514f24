/- The pure statement of the law FnExactConstants: the printed function answers true. No conditions. -/
import Derived.Test.YtnmpocdpdmkbdaaPFnExactConstantsx1
namespace Go.Proofs.Ytnmpocdpdmkbdaa.Pure
open Go.RowKit Go.Proofs.Ytnmpocdpdmkbdaa.PFnExactConstants Go.Proofs.YtnmpocdpdmkbdaaW.PrintWords Go.Proofs.YtnmpocdpdmkbdaaW.PrintLast

theorem FnExactConstants : laws_FnExactConstants.Pure := by
  unfold laws_FnExactConstants.Pure laws_FnExactConstants.f
  rfl

end Go.Proofs.Ytnmpocdpdmkbdaa.Pure
