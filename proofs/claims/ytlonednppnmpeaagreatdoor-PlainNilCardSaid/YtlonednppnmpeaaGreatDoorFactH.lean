/- PH: a part of the walk: contracts of functions that the law reaches. -/
import Derived.Test.YtlonednppnmpeaaGreatDoorRows
import Derived.JoinedOf
import Derived.KernelRfl
set_option linter.all false
/- Closed facts of the row, reckoned by the kernel: the great ones in modules of their own (together they pass the memory bound). -/
set_option linter.all false
namespace Go.Proofs.YtlonednppnmpeaaGreatDoor
namespace plainNil
open Go
theorem k0 : (Rows.plainNilRow.wf (OpenSpec.ofChange Rows.plainNilSpec)) = true := by kernel_rfl
theorem k3 : (Tryz.f3.params.all (Tryz.pinned.checked.prog.readableRec ·)) = true := by kernel_rfl
theorem k4 : (namedTie Tryz.pinned.checked.prog Rows.plainNilRow.named Rows.plainNilSpec.vars) = true := by kernel_rfl
theorem k5 : ((Rows.plainNilRow.stops == [])) = true := by kernel_rfl
theorem k6 : ((Tryz.pinned.checked.prog.stops == [])) = true := by kernel_rfl
theorem k7 : ((Rows.plainNilRow.knobs == [])) = true := by kernel_rfl
theorem k8 : ((Tryz.pinned.checked.prog.stopKnobs == [])) = true := by kernel_rfl
theorem k13 : ((Rows.plainNilRow.maps == (Tryz.f3.params.toList ++ Rows.plainNilSpec.plain.varTypes Tryz.pinned.checked.prog).any (Tryz.pinned.checked.prog.mapsRec ·))) = true := by kernel_rfl
theorem k14 : ((Rows.plainNilRow.ifaces == (Tryz.f3.params.toList ++ Rows.plainNilSpec.plain.varTypes Tryz.pinned.checked.prog).any (Tryz.pinned.checked.prog.ifacesRec ·))) = true := by kernel_rfl
theorem k15 : ((Rows.plainNilRow.mapsOut == Tryz.pinned.checked.prog.mapsAmong Tryz.f3.resultTypes.toList)) = true := by kernel_rfl
theorem k16 : ((Rows.plainNilRow.loops == (Tryz.f3.params.toList ++ Rows.plainNilSpec.plain.varTypes Tryz.pinned.checked.prog).any (Tryz.pinned.checked.prog.loopsFrom ·))) = true := by kernel_rfl
theorem k17 : ((Rows.plainNilRow.wideKeys == (Tryz.f3.params.toList ++ Rows.plainNilSpec.plain.varTypes Tryz.pinned.checked.prog ++ Tryz.f3.resultTypes.toList).any (Tryz.pinned.checked.prog.wideKeysFrom ·))) = true := by kernel_rfl
theorem k18 : (Rows.plainNilSpec.vars.all (Tryz.pinned.checked.prog.varReadable ·)) = true := by kernel_rfl
theorem k19 : (Tryz.f3.resultTypes.all (fun t => Tryz.pinned.checked.prog.readableRec t && decide (t < Tryz.pinned.checked.prog.types.size))) = true := by kernel_rfl
theorem k20 : ((Rows.plainNilRow.ifacesOut == Tryz.f3.resultTypes.toList.any (Tryz.pinned.checked.prog.ifacesRec ·))) = true := by kernel_rfl
theorem k21 : ((Rows.plainNilRow.loopsOut == Tryz.f3.resultTypes.toList.any (Tryz.pinned.checked.prog.loopsFrom ·))) = true := by kernel_rfl
theorem k23 : (Rows.plainNilRow.shortTexts.isNone) = true := by kernel_rfl
theorem k26 : ((Rows.plainNilRow.lifted == Tryz.pinned.checked.prog.liftsFinal)) = true := by kernel_rfl
theorem k27 : ((Tryz.pinned.checked.prog.make == some Rows.plainNilRow.make)) = true := by kernel_rfl
theorem k28 : ((Rows.plainNilRow.kinds == (if Rows.plainNilRow.domain.isEmpty then [] else Tryz.f3.params.toList.map fun t => match Tryz.pinned.checked.prog.underlying t with | some (.int k) => some k | _ => none))) = true := by kernel_rfl
theorem k29 : ((Rows.plainNilRow.pinned == Rows.plainNilRow.pinnedBy)) = true := by kernel_rfl
theorem k30 : ((Rows.plainNilRow.veiled == (Tryz.f3.params.toList ++ Rows.plainNilSpec.plain.varTypes Tryz.pinned.checked.prog ++ Tryz.f3.resultTypes.toList).any (Tryz.pinned.checked.prog.veiledRec ·))) = true := by kernel_rfl
theorem k31 : (Rows.plainNilRow.veiledFits Tryz.pinned.checked.prog Tryz.f3.params.toList (Tryz.f3.params.toList ++ Rows.plainNilSpec.plain.varTypes Tryz.pinned.checked.prog ++ Tryz.f3.resultTypes.toList)) = true := by kernel_rfl
end plainNil
end Go.Proofs.YtlonednppnmpeaaGreatDoor
