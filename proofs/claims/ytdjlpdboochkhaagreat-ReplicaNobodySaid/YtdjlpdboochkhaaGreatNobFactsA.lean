/-
  Closed facts of the row, each by the kernel.
-/
import Derived.Test.YtdjlpdboochkhaaGreatRows
import Derived.JoinedOf
namespace Go.Proofs.YtdjlpdboochkhaaGreat.replicaNobody
theorem k1 : (laidOutB Tryz.prog) = true := by kernel_rfl
theorem k2 : (mapsRowed Tryz.prog) = true := by kernel_rfl
theorem k9 : ((Rows.replicaNobodyRow.inPlace == Tryz.prog.inPlace 5)) = true := by kernel_rfl
theorem k10 : ((Rows.replicaNobodyRow.unfollowed == Tryz.prog.unfollowed 5)) = true := by kernel_rfl
end Go.Proofs.YtdjlpdboochkhaaGreat.replicaNobody
