/- WorldNone: the tied card: whatever the input, the law returns true and leaves the input as it was; the one package variable stands as the program's text lays it. -/
import Derived.Test.YtcclefkkjboaeaaGreatDoorWnRowB
import Derived.Test.YtcclefkkjboaeaaGreatDoorWnFacts
import Derived.Test.YtcclefkkjboaeaaGreatDoorTie
import Derived.Test.YtcclefkkjboaeaaGreatDoorCards
import Derived.SevenTiedAt
import Derived.Test.YtcclefkkjboaeaaGreatDoorAPost
import Derived.Test.YtcclefkkjboaeaaGreatDoorRows
import Derived.ProofKit
import Derived.LaidMore
import Derived.OpenShut
import Derived.Stop.Joined
namespace Go.Proofs.YtcclefkkjboaeaaGreatDoor
open Go Go.AM Go.ChangeShapes Go.WideShapes Go.ChangeAt Go.WideMaps Go.WideElems Go.RowKit
set_option maxRecDepth 100000
theorem worldNone_named : Tryz.pinned.checked.prog.funcNamed Rows.worldNoneRow.func = some 5 := by kernel_rfl

theorem worldNone_holds : Rows.WorldNoneSaid :=
  OpenClaim.holds_of_wide 5 Tryz.f5 rfl rfl rfl rfl rfl rfl rfl ⟨rfl, rfl, rfl, rfl, rfl⟩ rfl rfl rfl rfl rfl worldNone_named Tryz.func5 worldNone_facts
    (of_decide_eq_true (by kernel_rfl)) (by unfold Func.isWrapper; first | (rw [if_pos (by decide +kernel)]; kernel_rfl) | (rw [if_neg (by decide +kernel)]; exact ⟨rfl, rfl⟩))
    (fun os started H enc _ => worldNone_lifted os started H enc)

theorem worldNone_main : Tryz.pinned.checked.prog.mainIs = some (true, "8d4ec41bd83a96c6cfe31c1fcf3582b1ca9d549271bb64ffcf35b5754a6356e8".toList) := by kernel_rfl
theorem worldNone_looks : false = Tryz.pinned.checked.prog.looks [] := by kernel_rfl
theorem worldNone_goes : false = Rows.worldNoneRow.goesBy Tryz.pinned.checked.prog := by kernel_rfl
theorem worldNone_wf : Rows.worldNoneRow.wfByText (OpenSpec.ofChange Rows.worldNoneSpec) = true := by kernel_rfl
theorem worldNone_plain : ([53].all fun t => Tryz.prog.wantsStandIn t == false) = true := by kernel_rfl

theorem worldNone_card : Rows.WorldNoneCardSaid :=
  Claim7.holds_tied_plain_at .later [] [.data] true (true, "8d4ec41bd83a96c6cfe31c1fcf3582b1ca9d549271bb64ffcf35b5754a6356e8") false
    worldNone_holds (fun _ h => by cases h) worldNone_wf (fun _ h => by cases h) worldNone_row_tie rfl ⟨rfl, rfl⟩ worldNone_main rfl
    (fun f fn hf hfn => by
      obtain rfl : f = 5 := Option.some.inj (worldNone_named.symm.trans hf) |>.symm
      obtain rfl : fn = Tryz.f5 := (Option.some.inj (Tryz.func5.symm.trans hfn)).symm
      exact ⟨worldNone_looks, fun j t ht => by
        rw [Tryz.params5] at ht
        have hm : t ∈ [53] := by simpa using Array.mem_of_getElem? ht
        exact eq_of_beq (List.all_eq_true.1 worldNone_plain t hm)⟩)
    worldNone_goes
#print axioms worldNone_card
end Go.Proofs.YtcclefkkjboaeaaGreatDoor
