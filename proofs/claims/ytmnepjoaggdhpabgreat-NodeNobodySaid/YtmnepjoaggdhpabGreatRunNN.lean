/-
  The call of carousellaw21.NodeNobody comes to true in the machine, whatever the arguments are.
-/
import Derived.Test.YtmnepjoaggdhpabGreatTabNN
namespace Go.Proofs.NN
open Go Go.Ab
set_option maxRecDepth 100000
theorem law_run : isTrue (runM tab 100000 (.call 3 [.agg [.any, .any], .any]) ⟨.nil, 0⟩) = true := by kernel_rfl
end Go.Proofs.NN
