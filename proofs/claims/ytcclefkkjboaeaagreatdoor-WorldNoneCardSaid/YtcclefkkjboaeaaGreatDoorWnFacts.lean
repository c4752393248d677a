/- WorldNone: the row's closed facts. -/
import Derived.Test.YtcclefkkjboaeaaGreatDoorWnRun
import Derived.Test.YtcclefkkjboaeaaGreatDoorAPost
import Derived.Test.YtcclefkkjboaeaaGreatDoorRows
import Derived.ProofKit
import Derived.LaidMore
import Derived.OpenShut
import Derived.Stop.Joined
namespace Go.Proofs.YtcclefkkjboaeaaGreatDoor
open Go Go.AM Go.ChangeShapes Go.WideShapes Go.ChangeAt Go.WideMaps Go.WideElems Go.RowKit
set_option maxRecDepth 100000
theorem g0 : (Rows.worldNoneRow.wf (OpenSpec.ofChange Rows.worldNoneSpec) && (laidOutB Tryz.pinned.checked.prog && (mapsRowed Tryz.pinned.checked.prog && (Tryz.f5.params.all (Tryz.pinned.checked.prog.readableRec ·) && (namedTie Tryz.pinned.checked.prog Rows.worldNoneRow.named Rows.worldNoneSpec.vars && ((Rows.worldNoneRow.stops == []) && ((Tryz.pinned.checked.prog.stops == []) && ((Rows.worldNoneRow.knobs == []) && ((Tryz.pinned.checked.prog.stopKnobs == [])))))))))) = true := by kernel_rfl
theorem g9 : ((Rows.worldNoneRow.inPlace == Tryz.pinned.checked.prog.inPlace 5) && ((Rows.worldNoneRow.unfollowed == Tryz.pinned.checked.prog.unfollowed 5) && ((Rows.worldNoneRow.recurses == Tryz.pinned.checked.prog.recurses 5) && ((Rows.worldNoneRow.named == Tryz.pinned.checked.prog.varsNamed 5))))) = true := by kernel_rfl
theorem g13 : ((Rows.worldNoneRow.maps == (Tryz.f5.params.toList ++ Rows.worldNoneSpec.plain.varTypes Tryz.pinned.checked.prog).any (Tryz.pinned.checked.prog.mapsRec ·)) && ((Rows.worldNoneRow.ifaces == (Tryz.f5.params.toList ++ Rows.worldNoneSpec.plain.varTypes Tryz.pinned.checked.prog).any (Tryz.pinned.checked.prog.ifacesRec ·)) && ((Rows.worldNoneRow.mapsOut == Tryz.pinned.checked.prog.mapsAmong Tryz.f5.resultTypes.toList) && ((Rows.worldNoneRow.loops == (Tryz.f5.params.toList ++ Rows.worldNoneSpec.plain.varTypes Tryz.pinned.checked.prog).any (Tryz.pinned.checked.prog.loopsFrom ·)) && ((Rows.worldNoneRow.wideKeys == (Tryz.f5.params.toList ++ Rows.worldNoneSpec.plain.varTypes Tryz.pinned.checked.prog ++ Tryz.f5.resultTypes.toList).any (Tryz.pinned.checked.prog.wideKeysFrom ·)) && (Rows.worldNoneSpec.vars.all (Tryz.pinned.checked.prog.varReadable ·) && (Tryz.f5.resultTypes.all (fun t => Tryz.pinned.checked.prog.readableRec t && decide (t < Tryz.pinned.checked.prog.types.size)) && ((Rows.worldNoneRow.ifacesOut == Tryz.f5.resultTypes.toList.any (Tryz.pinned.checked.prog.ifacesRec ·)) && ((Rows.worldNoneRow.loopsOut == Tryz.f5.resultTypes.toList.any (Tryz.pinned.checked.prog.loopsFrom ·)) && ((Rows.worldNoneRow.plainKeys == Tryz.pinned.checked.prog.plainKeys) && (Rows.worldNoneRow.shortTexts.isNone && (Tryz.pinned.checked.prog.stopsHeard && (Tryz.pinned.checked.prog.mayEnter && ((Rows.worldNoneRow.lifted == Tryz.pinned.checked.prog.liftsFinal) && ((Tryz.pinned.checked.prog.make == some Rows.worldNoneRow.make) && ((Rows.worldNoneRow.kinds == (if Rows.worldNoneRow.domain.isEmpty then [] else Tryz.f5.params.toList.map fun t => match Tryz.pinned.checked.prog.underlying t with | some (.int k) => some k | _ => none)) && ((Rows.worldNoneRow.pinned == Rows.worldNoneRow.pinnedBy) && ((Rows.worldNoneRow.veiled == (Tryz.f5.params.toList ++ Rows.worldNoneSpec.plain.varTypes Tryz.pinned.checked.prog ++ Tryz.f5.resultTypes.toList).any (Tryz.pinned.checked.prog.veiledRec ·)) && (Rows.worldNoneRow.veiledFits Tryz.pinned.checked.prog Tryz.f5.params.toList (Tryz.f5.params.toList ++ Rows.worldNoneSpec.plain.varTypes Tryz.pinned.checked.prog ++ Tryz.f5.resultTypes.toList)))))))))))))))))))) = true := by kernel_rfl
theorem worldNone_facts : joinedFacts Tryz.pinned.checked.prog 5 Tryz.f5 Rows.worldNoneSpec Rows.worldNoneRow = true := by
  have h0 := g0
  simp only [Bool.and_eq_true] at h0
  obtain ⟨k0, ⟨k1, ⟨k2, ⟨k3, ⟨k4, ⟨k5, ⟨k6, ⟨k7, k8⟩⟩⟩⟩⟩⟩⟩⟩ := h0
  have h9 := g9
  simp only [Bool.and_eq_true] at h9
  obtain ⟨k9, ⟨k10, ⟨k11, k12⟩⟩⟩ := h9
  have h13 := g13
  simp only [Bool.and_eq_true] at h13
  obtain ⟨k13, ⟨k14, ⟨k15, ⟨k16, ⟨k17, ⟨k18, ⟨k19, ⟨k20, ⟨k21, ⟨k22, ⟨k23, ⟨k24, ⟨k25, ⟨k26, ⟨k27, ⟨k28, ⟨k29, ⟨k30, k31⟩⟩⟩⟩⟩⟩⟩⟩⟩⟩⟩⟩⟩⟩⟩⟩⟩⟩ := h13
  unfold joinedFacts
  simp only [Bool.and_eq_true]
  exact ⟨⟨⟨⟨⟨⟨⟨⟨⟨⟨⟨⟨⟨⟨⟨⟨⟨⟨⟨⟨⟨⟨⟨⟨⟨⟨⟨⟨⟨⟨⟨k0, k1⟩, k2⟩, k3⟩, k4⟩, k5⟩, k6⟩, k7⟩, k8⟩, k9⟩, k10⟩, k11⟩, k12⟩, k13⟩, k14⟩, k15⟩, k16⟩, k17⟩, k18⟩, k19⟩, k20⟩, k21⟩, k22⟩, k23⟩, k24⟩, k25⟩, k26⟩, k27⟩, k28⟩, k29⟩, k30⟩, k31⟩
end Go.Proofs.YtcclefkkjboaeaaGreatDoor
