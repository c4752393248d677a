/-
  DERIVED. GIVEN WITH THE SEED: THE CARDS: each row of YtcclefkkjboaeaaGreatDoorRows.lean that lists a variable, with what it lists TIED to the program's text (the seventh form; the later family's looks); each row that meets fmt, with fmt's text TOLD by the authors' own Lean function (tested against real Go, not proved from fmt's source: count such statements apart). THE CARD IS WHAT COUNTS. Prove the row's statement (the work); the ties are given (YtcclefkkjboaeaaGreatDoorTie.lean); close each card by the builder's one call (the guide's Derived/Test/ToyasCard.lean, 'card_holds'). Laid BY PROGRAM, IN A SANDBOX (cutbox-door.mjs). By AI agents, Wed Nov 11 2026. No macro, syntax, notation, axiom, sorry.
-/
import Derived.Test.YtcclefkkjboaeaaGreatDoorRows
import GoSem.ClaimSeven
namespace Go.Proofs.YtcclefkkjboaeaaGreatDoor
namespace Rows

/-- THE TIED CARD OF 'boscagelaw35.SwingNone'. -/
def swingNoneCard : Claim7 := { stood := { row := swingNoneRow, standIns := [], harness := (true, "8d4ec41bd83a96c6cfe31c1fcf3582b1ca9d549271bb64ffcf35b5754a6356e8"), looks := false }, kinds := [], alts := [], laidByText := true, laidKinds := [.data], laidTests := true, laidLooks := .later }
def SwingNoneCardSaid : Prop := Claim7.holds Tryz.pinned (.plain (OpenSpec.ofChange swingNoneSpec)) swingNoneCard

/-- THE TIED CARD OF 'boscagelaw38.SweepRefuses'. -/
def sweepRefusesCard : Claim7 := { stood := { row := sweepRefusesRow, standIns := [], harness := (true, "8d4ec41bd83a96c6cfe31c1fcf3582b1ca9d549271bb64ffcf35b5754a6356e8"), looks := false }, kinds := [], alts := [], laidByText := true, laidKinds := [.data], laidTests := true, laidLooks := .later }
def SweepRefusesCardSaid : Prop := Claim7.holds Tryz.pinned (.plain (OpenSpec.ofChange sweepRefusesSpec)) sweepRefusesCard

/-- THE TIED CARD OF 'boscagelaw39.WorldNone'. -/
def worldNoneCard : Claim7 := { stood := { row := worldNoneRow, standIns := [], harness := (true, "8d4ec41bd83a96c6cfe31c1fcf3582b1ca9d549271bb64ffcf35b5754a6356e8"), looks := false }, kinds := [], alts := [], laidByText := true, laidKinds := [.data], laidTests := true, laidLooks := .later }
def WorldNoneCardSaid : Prop := Claim7.holds Tryz.pinned (.plain (OpenSpec.ofChange worldNoneSpec)) worldNoneCard

/-- THE TIED CARD OF 'boscagelaw44.PlayConfigs'. -/
def playConfigsCard : Claim7 := { stood := { row := playConfigsRow, standIns := [], harness := (true, "8d4ec41bd83a96c6cfe31c1fcf3582b1ca9d549271bb64ffcf35b5754a6356e8"), looks := false }, kinds := [], alts := [], laidByText := true, laidKinds := [.data], laidTests := true, laidLooks := .later }
def PlayConfigsCardSaid : Prop := Claim7.holds Tryz.pinned (.plain (OpenSpec.ofChange playConfigsSpec)) playConfigsCard

/-- THE SECOND FORM's CARD OF 'boscagelaw35.SwingNone'. -/
def swingNoneUptoCard : Claim7 := { stood := { row := swingNoneUptoRow, standIns := [], harness := (true, "8d4ec41bd83a96c6cfe31c1fcf3582b1ca9d549271bb64ffcf35b5754a6356e8"), looks := false }, kinds := [], alts := [], laidByText := true, laidKinds := [.data], laidTests := true, laidLooks := .later }
def SwingNoneUptoCardSaid : Prop := Claim7.holds Tryz.pinned (.plain (OpenSpec.upto swingNoneSpec)) swingNoneUptoCard

/-- THE SECOND FORM's CARD OF 'boscagelaw38.SweepRefuses'. -/
def sweepRefusesUptoCard : Claim7 := { stood := { row := sweepRefusesUptoRow, standIns := [], harness := (true, "8d4ec41bd83a96c6cfe31c1fcf3582b1ca9d549271bb64ffcf35b5754a6356e8"), looks := false }, kinds := [], alts := [], laidByText := true, laidKinds := [.data], laidTests := true, laidLooks := .later }
def SweepRefusesUptoCardSaid : Prop := Claim7.holds Tryz.pinned (.plain (OpenSpec.upto sweepRefusesSpec)) sweepRefusesUptoCard

/-- THE SECOND FORM's CARD OF 'boscagelaw39.WorldNone'. -/
def worldNoneUptoCard : Claim7 := { stood := { row := worldNoneUptoRow, standIns := [], harness := (true, "8d4ec41bd83a96c6cfe31c1fcf3582b1ca9d549271bb64ffcf35b5754a6356e8"), looks := false }, kinds := [], alts := [], laidByText := true, laidKinds := [.data], laidTests := true, laidLooks := .later }
def WorldNoneUptoCardSaid : Prop := Claim7.holds Tryz.pinned (.plain (OpenSpec.upto worldNoneSpec)) worldNoneUptoCard

/-- THE SECOND FORM's CARD OF 'boscagelaw44.PlayConfigs'. -/
def playConfigsUptoCard : Claim7 := { stood := { row := playConfigsUptoRow, standIns := [], harness := (true, "8d4ec41bd83a96c6cfe31c1fcf3582b1ca9d549271bb64ffcf35b5754a6356e8"), looks := false }, kinds := [], alts := [], laidByText := true, laidKinds := [.data], laidTests := true, laidLooks := .later }
def PlayConfigsUptoCardSaid : Prop := Claim7.holds Tryz.pinned (.plain (OpenSpec.upto playConfigsSpec)) playConfigsUptoCard
end Rows
end Go.Proofs.YtcclefkkjboaeaaGreatDoor
