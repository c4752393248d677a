/- SwingNone: the row. -/
import Derived.Test.YtcclefkkjboaeaaGreatDoorSnRowB
import Derived.Test.YtcclefkkjboaeaaGreatDoorSnFacts
import Derived.Test.YtcclefkkjboaeaaGreatDoorTie
import Derived.Test.YtcclefkkjboaeaaGreatDoorCards
import Derived.SevenTiedAt
import Derived.Test.YtcclefkkjboaeaaGreatDoorAPost
import Derived.Test.YtcclefkkjboaeaaGreatDoorRows
import Derived.ProofKit
import Derived.LaidMore
import Derived.OpenShut
import Derived.Stop.Joined
namespace Go.Proofs.YtcclefkkjboaeaaGreatDoor
open Go Go.AM Go.ChangeShapes Go.WideShapes Go.ChangeAt Go.WideMaps Go.WideElems Go.RowKit

theorem swingNone_named : Tryz.pinned.checked.prog.funcNamed Rows.swingNoneRow.func = some 3 := by kernel_rfl

theorem swingNone_holds : Rows.SwingNoneSaid :=
  OpenClaim.holds_of_wide 3 Tryz.f3 rfl rfl rfl rfl rfl rfl rfl ⟨rfl, rfl, rfl, rfl, rfl⟩ rfl rfl rfl rfl rfl swingNone_named Tryz.func3 facts3
    (of_decide_eq_true (by kernel_rfl)) (by unfold Func.isWrapper; first | (rw [if_pos (by decide +kernel)]; kernel_rfl) | (rw [if_neg (by decide +kernel)]; exact ⟨rfl, rfl⟩))
    (fun os started H enc _ => swingNone_lifted os started H enc)

theorem swingNone_main : Tryz.pinned.checked.prog.mainIs = some (true, "8d4ec41bd83a96c6cfe31c1fcf3582b1ca9d549271bb64ffcf35b5754a6356e8".toList) := by kernel_rfl
theorem swingNone_looks : false = Tryz.pinned.checked.prog.looks [] := by kernel_rfl
theorem swingNone_goes : false = Rows.swingNoneRow.goesBy Tryz.pinned.checked.prog := by kernel_rfl
theorem swingNone_wf : Rows.swingNoneRow.wfByText (OpenSpec.ofChange Rows.swingNoneSpec) = true := by kernel_rfl
theorem swingNone_plain : ([23, 3].all fun t => Tryz.prog.wantsStandIn t == false) = true := by kernel_rfl

theorem swingNone_card : Rows.SwingNoneCardSaid :=
  Claim7.holds_tied_plain_at .later [] [.data] true (true, "8d4ec41bd83a96c6cfe31c1fcf3582b1ca9d549271bb64ffcf35b5754a6356e8") false
    swingNone_holds (fun _ h => by cases h) swingNone_wf (fun _ h => by cases h) swingNone_row_tie rfl ⟨rfl, rfl⟩ swingNone_main rfl
    (fun f fn hf hfn => by
      obtain rfl : f = 3 := Option.some.inj (swingNone_named.symm.trans hf) |>.symm
      obtain rfl : fn = Tryz.f3 := (Option.some.inj (Tryz.func3.symm.trans hfn)).symm
      exact ⟨swingNone_looks, fun j t ht => by
        rw [Tryz.params3] at ht
        have hm : t ∈ [23, 3] := by simpa using Array.mem_of_getElem? ht
        exact eq_of_beq (List.all_eq_true.1 swingNone_plain t hm)⟩)
    swingNone_goes
#print axioms swingNone_card
end Go.Proofs.YtcclefkkjboaeaaGreatDoor
