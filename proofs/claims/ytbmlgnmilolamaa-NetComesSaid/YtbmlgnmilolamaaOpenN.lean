/-
  Opening arguments: imports. No statement is proved here.
-/
import Derived.Test.YtbmlgnmilolamaaKit
import Derived.OpenShut
import Derived.ShutString
import Derived.SizedLaws
import Derived.SliceStrings
namespace Go.Proofs.Ytbmlgnmilolamaa
open Go.RowKit
theorem bytes_fate : Try.prog.bytesOf 24 = 24 := by kernel_rfl
end Go.Proofs.Ytbmlgnmilolamaa
