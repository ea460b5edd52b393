/-
  The call of carousellaw29.InfoNobody comes to true in the machine, whatever the arguments are.
-/
import Derived.Test.YtmnepjoaggdhpaaGreatDoorTabIN
namespace Go.Proofs.IN
open Go Go.Ab
set_option maxRecDepth 100000
theorem law_run : isTrue (runM tab 100000 (.call 3 [.agg [.any, .any], .any]) ⟨.nil, 0⟩) = true := by kernel_rfl
end Go.Proofs.IN
