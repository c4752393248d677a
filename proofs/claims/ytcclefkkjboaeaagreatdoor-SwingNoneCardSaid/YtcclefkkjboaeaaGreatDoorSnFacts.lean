/- SwingNone: the row's closed facts. -/
import Derived.Test.YtcclefkkjboaeaaGreatDoorSnRun
import Derived.Test.YtcclefkkjboaeaaGreatDoorAPost
import Derived.Test.YtcclefkkjboaeaaGreatDoorRows
import Derived.ProofKit
import Derived.LaidMore
import Derived.OpenShut
import Derived.Stop.Joined
namespace Go.Proofs.YtcclefkkjboaeaaGreatDoor
open Go Go.AM Go.ChangeShapes Go.WideShapes Go.ChangeAt Go.WideMaps Go.WideElems Go.RowKit
set_option maxRecDepth 100000
theorem g0 : (Rows.swingNoneRow.wf (OpenSpec.ofChange Rows.swingNoneSpec) && (laidOutB Tryz.pinned.checked.prog && (mapsRowed Tryz.pinned.checked.prog && (Tryz.f3.params.all (Tryz.pinned.checked.prog.readableRec ·) && (namedTie Tryz.pinned.checked.prog Rows.swingNoneRow.named Rows.swingNoneSpec.vars && ((Rows.swingNoneRow.stops == []) && ((Tryz.pinned.checked.prog.stops == []) && ((Rows.swingNoneRow.knobs == []) && ((Tryz.pinned.checked.prog.stopKnobs == [])))))))))) = true := by kernel_rfl
theorem g9 : ((Rows.swingNoneRow.inPlace == Tryz.pinned.checked.prog.inPlace 3) && ((Rows.swingNoneRow.unfollowed == Tryz.pinned.checked.prog.unfollowed 3) && ((Rows.swingNoneRow.recurses == Tryz.pinned.checked.prog.recurses 3) && ((Rows.swingNoneRow.named == Tryz.pinned.checked.prog.varsNamed 3))))) = true := by kernel_rfl
theorem g13 : ((Rows.swingNoneRow.maps == (Tryz.f3.params.toList ++ Rows.swingNoneSpec.plain.varTypes Tryz.pinned.checked.prog).any (Tryz.pinned.checked.prog.mapsRec ·)) && ((Rows.swingNoneRow.ifaces == (Tryz.f3.params.toList ++ Rows.swingNoneSpec.plain.varTypes Tryz.pinned.checked.prog).any (Tryz.pinned.checked.prog.ifacesRec ·)) && ((Rows.swingNoneRow.mapsOut == Tryz.pinned.checked.prog.mapsAmong Tryz.f3.resultTypes.toList) && ((Rows.swingNoneRow.loops == (Tryz.f3.params.toList ++ Rows.swingNoneSpec.plain.varTypes Tryz.pinned.checked.prog).any (Tryz.pinned.checked.prog.loopsFrom ·)) && ((Rows.swingNoneRow.wideKeys == (Tryz.f3.params.toList ++ Rows.swingNoneSpec.plain.varTypes Tryz.pinned.checked.prog ++ Tryz.f3.resultTypes.toList).any (Tryz.pinned.checked.prog.wideKeysFrom ·)) && (Rows.swingNoneSpec.vars.all (Tryz.pinned.checked.prog.varReadable ·) && (Tryz.f3.resultTypes.all (fun t => Tryz.pinned.checked.prog.readableRec t && decide (t < Tryz.pinned.checked.prog.types.size)) && ((Rows.swingNoneRow.ifacesOut == Tryz.f3.resultTypes.toList.any (Tryz.pinned.checked.prog.ifacesRec ·)) && ((Rows.swingNoneRow.loopsOut == Tryz.f3.resultTypes.toList.any (Tryz.pinned.checked.prog.loopsFrom ·)) && ((Rows.swingNoneRow.plainKeys == Tryz.pinned.checked.prog.plainKeys) && (Rows.swingNoneRow.shortTexts.isNone && (Tryz.pinned.checked.prog.stopsHeard && (Tryz.pinned.checked.prog.mayEnter && ((Rows.swingNoneRow.lifted == Tryz.pinned.checked.prog.liftsFinal) && ((Tryz.pinned.checked.prog.make == some Rows.swingNoneRow.make) && ((Rows.swingNoneRow.kinds == (if Rows.swingNoneRow.domain.isEmpty then [] else Tryz.f3.params.toList.map fun t => match Tryz.pinned.checked.prog.underlying t with | some (.int k) => some k | _ => none)) && ((Rows.swingNoneRow.pinned == Rows.swingNoneRow.pinnedBy) && ((Rows.swingNoneRow.veiled == (Tryz.f3.params.toList ++ Rows.swingNoneSpec.plain.varTypes Tryz.pinned.checked.prog ++ Tryz.f3.resultTypes.toList).any (Tryz.pinned.checked.prog.veiledRec ·)) && (Rows.swingNoneRow.veiledFits Tryz.pinned.checked.prog Tryz.f3.params.toList (Tryz.f3.params.toList ++ Rows.swingNoneSpec.plain.varTypes Tryz.pinned.checked.prog ++ Tryz.f3.resultTypes.toList)))))))))))))))))))) = true := by kernel_rfl
theorem facts3 : joinedFacts Tryz.pinned.checked.prog 3 Tryz.f3 Rows.swingNoneSpec Rows.swingNoneRow = true := by
  have h0 := g0
  simp only [Bool.and_eq_true] at h0
  obtain ⟨k0, ⟨k1, ⟨k2, ⟨k3, ⟨k4, ⟨k5, ⟨k6, ⟨k7, k8⟩⟩⟩⟩⟩⟩⟩⟩ := h0
  have h9 := g9
  simp only [Bool.and_eq_true] at h9
  obtain ⟨k9, ⟨k10, ⟨k11, k12⟩⟩⟩ := h9
  have h13 := g13
  simp only [Bool.and_eq_true] at h13
  obtain ⟨k13, ⟨k14, ⟨k15, ⟨k16, ⟨k17, ⟨k18, ⟨k19, ⟨k20, ⟨k21, ⟨k22, ⟨k23, ⟨k24, ⟨k25, ⟨k26, ⟨k27, ⟨k28, ⟨k29, ⟨k30, k31⟩⟩⟩⟩⟩⟩⟩⟩⟩⟩⟩⟩⟩⟩⟩⟩⟩⟩ := h13
  unfold joinedFacts
  simp only [Bool.and_eq_true]
  exact ⟨⟨⟨⟨⟨⟨⟨⟨⟨⟨⟨⟨⟨⟨⟨⟨⟨⟨⟨⟨⟨⟨⟨⟨⟨⟨⟨⟨⟨⟨⟨k0, k1⟩, k2⟩, k3⟩, k4⟩, k5⟩, k6⟩, k7⟩, k8⟩, k9⟩, k10⟩, k11⟩, k12⟩, k13⟩, k14⟩, k15⟩, k16⟩, k17⟩, k18⟩, k19⟩, k20⟩, k21⟩, k22⟩, k23⟩, k24⟩, k25⟩, k26⟩, k27⟩, k28⟩, k29⟩, k30⟩, k31⟩
end Go.Proofs.YtcclefkkjboaeaaGreatDoor
