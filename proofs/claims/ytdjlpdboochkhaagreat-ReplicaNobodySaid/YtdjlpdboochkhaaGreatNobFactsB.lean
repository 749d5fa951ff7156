/-
  Closed facts of the row, each by the kernel.
-/
import Derived.Test.YtdjlpdboochkhaaGreatRows
import Derived.JoinedOf
namespace Go.Proofs.YtdjlpdboochkhaaGreat.replicaNobody
theorem k0 : (Rows.replicaNobodyRow.wf (OpenSpec.ofChange Rows.replicaNobodySpec)) = true := by kernel_rfl
theorem k3 : (Tryz.f5.params.all (Tryz.prog.readableRec ·)) = true := by kernel_rfl
theorem k4 : (namedTie Tryz.prog Rows.replicaNobodyRow.named Rows.replicaNobodySpec.vars) = true := by kernel_rfl
theorem k5 : ((Rows.replicaNobodyRow.stops == [])) = true := by kernel_rfl
theorem k6 : ((Tryz.prog.stops == [])) = true := by kernel_rfl
theorem k7 : ((Rows.replicaNobodyRow.knobs == [])) = true := by kernel_rfl
theorem k8 : ((Tryz.prog.stopKnobs == [])) = true := by kernel_rfl
theorem k11 : ((Rows.replicaNobodyRow.recurses == Tryz.prog.recurses 5)) = true := by kernel_rfl
theorem k12 : ((Rows.replicaNobodyRow.named == Tryz.prog.varsNamed 5)) = true := by kernel_rfl
theorem k13 : ((Rows.replicaNobodyRow.maps == (Tryz.f5.params.toList ++ Rows.replicaNobodySpec.plain.varTypes Tryz.prog).any (Tryz.prog.mapsRec ·))) = true := by kernel_rfl
theorem k14 : ((Rows.replicaNobodyRow.ifaces == (Tryz.f5.params.toList ++ Rows.replicaNobodySpec.plain.varTypes Tryz.prog).any (Tryz.prog.ifacesRec ·))) = true := by kernel_rfl
theorem k15 : ((Rows.replicaNobodyRow.mapsOut == Tryz.prog.mapsAmong Tryz.f5.resultTypes.toList)) = true := by kernel_rfl
theorem k16 : ((Rows.replicaNobodyRow.loops == (Tryz.f5.params.toList ++ Rows.replicaNobodySpec.plain.varTypes Tryz.prog).any (Tryz.prog.loopsFrom ·))) = true := by kernel_rfl
theorem k17 : ((Rows.replicaNobodyRow.wideKeys == (Tryz.f5.params.toList ++ Rows.replicaNobodySpec.plain.varTypes Tryz.prog ++ Tryz.f5.resultTypes.toList).any (Tryz.prog.wideKeysFrom ·))) = true := by kernel_rfl
theorem k18 : (Rows.replicaNobodySpec.vars.all (Tryz.prog.varReadable ·)) = true := by kernel_rfl
theorem k19 : (Tryz.f5.resultTypes.all (fun t => Tryz.prog.readableRec t && decide (t < Tryz.prog.types.size))) = true := by kernel_rfl
theorem k20 : ((Rows.replicaNobodyRow.ifacesOut == Tryz.f5.resultTypes.toList.any (Tryz.prog.ifacesRec ·))) = true := by kernel_rfl
theorem k21 : ((Rows.replicaNobodyRow.loopsOut == Tryz.f5.resultTypes.toList.any (Tryz.prog.loopsFrom ·))) = true := by kernel_rfl
theorem k22 : ((Rows.replicaNobodyRow.plainKeys == Tryz.prog.plainKeys)) = true := by kernel_rfl
theorem k23 : (Rows.replicaNobodyRow.shortTexts.isNone) = true := by kernel_rfl
theorem k24 : (Tryz.prog.stopsHeard) = true := by kernel_rfl
theorem k25 : (Tryz.prog.mayEnter) = true := by kernel_rfl
theorem k26 : ((Rows.replicaNobodyRow.lifted == Tryz.prog.liftsFinal)) = true := by kernel_rfl
theorem k27 : ((Tryz.prog.make == some Rows.replicaNobodyRow.make)) = true := by kernel_rfl
theorem k28 : ((Rows.replicaNobodyRow.kinds == (if Rows.replicaNobodyRow.domain.isEmpty then [] else Tryz.f5.params.toList.map fun t => match Tryz.prog.underlying t with | some (.int k) => some k | _ => none))) = true := by kernel_rfl
theorem k29 : ((Rows.replicaNobodyRow.pinned == Rows.replicaNobodyRow.pinnedBy)) = true := by kernel_rfl
theorem k30 : ((Rows.replicaNobodyRow.veiled == (Tryz.f5.params.toList ++ Rows.replicaNobodySpec.plain.varTypes Tryz.prog ++ Tryz.f5.resultTypes.toList).any (Tryz.prog.veiledRec ·))) = true := by kernel_rfl
theorem k31 : (Rows.replicaNobodyRow.veiledFits Tryz.prog Tryz.f5.params.toList (Tryz.f5.params.toList ++ Rows.replicaNobodySpec.plain.varTypes Tryz.prog ++ Tryz.f5.resultTypes.toList)) = true := by kernel_rfl
end Go.Proofs.YtdjlpdboochkhaaGreat.replicaNobody
