/-
  The walk of the document's Get.
-/
import Derived.Test.YtajclcbclbppiaaJRecWk
namespace Go.Proofs.Ytajclcbclbppiaa
open Go.RowKit Go.Bt Go.Sm Go.Rc
end Go.Proofs.Ytajclcbclbppiaa
