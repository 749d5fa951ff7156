/-
  The closed run that every law of layer 23 asks for comes to true.
-/
import Derived.Test.YtdjlpdboochkhaaGreatS23a
import Derived.Test.YtdjlpdboochkhaaGreatAmOwn
set_option linter.unusedVariables false
namespace Go.AM.S23
open Go Go.AM
theorem livesRun : trueF PP XX YY 100000 8 [] = true := by kernel_rfl
theorem lives_wf (H : Heap) (Q : HK) (hq : Q (.bool true) H) : WF PP XX (.func n_pianolalaw23_lives [] []) [] H Q := WF_true yok rfl livesRun rfl hq
end Go.AM.S23
