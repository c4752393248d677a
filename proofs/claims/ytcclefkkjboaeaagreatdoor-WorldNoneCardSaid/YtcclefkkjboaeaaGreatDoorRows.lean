/-
  NARROWER THAN 'FOR EVERY INPUT', by the rows' own cells (each row's printed sentence says how): SwingNone: laid · SweepRefuses: laid · WorldNone: laid · PlayConfigs: laid.
  DERIVED. THE GIVEN ROWS OF THIS SEAT. 4 by the template 'for every input the law returns true; each argument reads behind the call as it read before'; 0 by the template 'total and deterministic' (their statements: YtcclefkkjboaeaaGreatDoorTotals.lean).
  GIVEN WITH THE SEED: the statements are not yours to turn. If you find one false, say at which input.
  Laid BY PROGRAM, IN A SANDBOX (cutbox-rows.mjs): the forced cells as the released guide's own fill.sh prints them over the translation f90a63283384780f… (all of the seat's roots in one cut). By AI agents, Wed Nov 11 2026. No macro, syntax, notation, axiom, sorry.
-/
import Derived.Test.YtcclefkkjboaeaaGreatDoorChecked
import GoSem.Claim
import GoSem.ClaimJoined
import GoSem.ClaimMapViews
import Derived.JoinedTies
import Derived.KernelRfl
namespace Go.Proofs.YtcclefkkjboaeaaGreatDoor
/- THE CELL 'sum', in the pinned program and in every row, IS THE sha256 OF THE DUMP (.gsa) THAT YtcclefkkjboaeaaGreatDoorProg.lean LOADS. Nothing in Lean hashes anything: it is a label: what it is worth is what the hold of that sum in a sandbox is worth. -/
noncomputable def Tryz.pinned : Pinned := { name := "ytcclefkkjboaeaagreatdoor", sum := "f90a63283384780ffa8a1bad1e2f860887bb42235ca5b6d87c5614a4ddaea35f", checked := Tryz.checked }
namespace Rows
def none {H : Type} : Left H := { results := [], args := [] }

/- WHAT THE LISTED PACKAGE-LEVEL VARIABLES READ AS WHEN THE CALL BEGINS. Each datum BY PROGRAM (the guide's laid-datum.mjs) off the statement by which the dump's own 'gosem.cut.vars' lays the variable. In a bare row this is a premise. The card (YtcclefkkjboaeaaGreatDoorCards.lean) ties it to the program's text. -/
def laid_boscage_call_used {H : Type} : DataW H := .agg [.agg [.lit (.bool false), .lit (.bool false), .lit (.bool false), .lit (.bool false)], .agg [.lit (.bool true), .lit (.bool false), .lit (.bool false), .lit (.bool false)], .agg [.lit (.bool true), .lit (.bool true), .lit (.bool false), .lit (.bool false)], .agg [.lit (.bool true), .lit (.bool true), .lit (.bool false), .lit (.bool false)], .agg [.lit (.bool true), .lit (.bool true), .lit (.bool true), .lit (.bool false)], .agg [.lit (.bool true), .lit (.bool false), .lit (.bool false), .lit (.bool false)], .agg [.lit (.bool true), .lit (.bool false), .lit (.bool false), .lit (.bool false)], .agg [.lit (.bool false), .lit (.bool false), .lit (.bool false), .lit (.bool false)], .agg [.lit (.bool false), .lit (.bool false), .lit (.bool false), .lit (.bool true)], .agg [.lit (.bool true), .lit (.bool false), .lit (.bool false), .lit (.bool true)], .agg [.lit (.bool false), .lit (.bool false), .lit (.bool false), .lit (.bool true)], .agg [.lit (.bool true), .lit (.bool false), .lit (.bool false), .lit (.bool true)], .agg [.lit (.bool false), .lit (.bool false), .lit (.bool false), .lit (.bool true)], .agg [.lit (.bool false), .lit (.bool false), .lit (.bool false), .lit (.bool false)]]

/-- 'boscagelaw35.SwingNone': WHATEVER THE INPUT: true; the input reads as it did. -/
def swingNoneSpec : ChangeSpec := { name := "swingNone", fn := fun _ => fun
  | [d1, d2] => { results := [.lit (.bool true)], args := [d1, d2] }
  | _ => none }
def swingNoneRow : OpenClaim := { program := "ytcclefkkjboaeaagreatdoor", sum := "f90a63283384780ffa8a1bad1e2f860887bb42235ca5b6d87c5614a4ddaea35f", func := "boscage/boscagelaw35.SwingNone", spec := "swingNone", inPlace := ["slices.overlaps[boscage/api.Pair]"], unfollowed := true, recurses := true, named := ["boscage/call.used"], apart := false, laid := [("boscage/call.used", laid_boscage_call_used)] }
def SwingNoneSaid : Prop := swingNoneRow.holds Tryz.pinned (OpenSpec.ofChange swingNoneSpec)

/-- ITS FALSE NEIGHBOUR: 'it returns false'. Refute it at one input. -/
def swingNoneWrong : ChangeSpec := { name := "swingNone", fn := fun _ => fun
  | [d1, d2] => { results := [.lit (.bool false)], args := [d1, d2] }
  | _ => none }
def SwingNoneWrongFalsely : Prop := swingNoneRow.holds Tryz.pinned (OpenSpec.ofChange swingNoneWrong)

/-- 'boscagelaw38.SweepRefuses': WHATEVER THE INPUT: true; the input reads as it did. -/
def sweepRefusesSpec : ChangeSpec := { name := "sweepRefuses", fn := fun _ => fun
  | [d1, d2, d3] => { results := [.lit (.bool true)], args := [d1, d2, d3] }
  | _ => none }
def sweepRefusesRow : OpenClaim := { program := "ytcclefkkjboaeaagreatdoor", sum := "f90a63283384780ffa8a1bad1e2f860887bb42235ca5b6d87c5614a4ddaea35f", func := "boscage/boscagelaw38.SweepRefuses", spec := "sweepRefuses", inPlace := ["slices.overlaps[boscage/api.Pair]"], unfollowed := true, recurses := true, named := ["boscage/call.used"], apart := false, laid := [("boscage/call.used", laid_boscage_call_used)] }
def SweepRefusesSaid : Prop := sweepRefusesRow.holds Tryz.pinned (OpenSpec.ofChange sweepRefusesSpec)

/-- ITS FALSE NEIGHBOUR: 'it returns false'. Refute it at one input. -/
def sweepRefusesWrong : ChangeSpec := { name := "sweepRefuses", fn := fun _ => fun
  | [d1, d2, d3] => { results := [.lit (.bool false)], args := [d1, d2, d3] }
  | _ => none }
def SweepRefusesWrongFalsely : Prop := sweepRefusesRow.holds Tryz.pinned (OpenSpec.ofChange sweepRefusesWrong)

/-- 'boscagelaw39.WorldNone': WHATEVER THE INPUT: true; the input reads as it did. -/
def worldNoneSpec : ChangeSpec := { name := "worldNone", fn := fun _ => fun
  | [d] => { results := [.lit (.bool true)], args := [d] }
  | _ => none }
def worldNoneRow : OpenClaim := { program := "ytcclefkkjboaeaagreatdoor", sum := "f90a63283384780ffa8a1bad1e2f860887bb42235ca5b6d87c5614a4ddaea35f", func := "boscage/boscagelaw39.WorldNone", spec := "worldNone", inPlace := ["slices.overlaps[boscage/api.Pair]", "slices.overlaps[boscage/api.Ref]"], unfollowed := true, recurses := true, named := ["boscage/call.used"], apart := false, laid := [("boscage/call.used", laid_boscage_call_used)] }
def WorldNoneSaid : Prop := worldNoneRow.holds Tryz.pinned (OpenSpec.ofChange worldNoneSpec)

/-- ITS FALSE NEIGHBOUR: 'it returns false'. Refute it at one input. -/
def worldNoneWrong : ChangeSpec := { name := "worldNone", fn := fun _ => fun
  | [d] => { results := [.lit (.bool false)], args := [d] }
  | _ => none }
def WorldNoneWrongFalsely : Prop := worldNoneRow.holds Tryz.pinned (OpenSpec.ofChange worldNoneWrong)

/-- 'boscagelaw44.PlayConfigs': WHATEVER THE INPUT: true; the input reads as it did. -/
def playConfigsSpec : ChangeSpec := { name := "playConfigs", fn := fun _ => fun
  | [d] => { results := [.lit (.bool true)], args := [d] }
  | _ => none }
def playConfigsRow : OpenClaim := { program := "ytcclefkkjboaeaagreatdoor", sum := "f90a63283384780ffa8a1bad1e2f860887bb42235ca5b6d87c5614a4ddaea35f", func := "boscage/boscagelaw44.PlayConfigs", spec := "playConfigs", inPlace := ["slices.overlaps[boscage/api.Pair]", "slices.overlaps[boscage/api.Ref]"], unfollowed := true, recurses := true, named := ["boscage/call.used"], apart := false, laid := [("boscage/call.used", laid_boscage_call_used)] }
def PlayConfigsSaid : Prop := playConfigsRow.holds Tryz.pinned (OpenSpec.ofChange playConfigsSpec)

/-- ITS FALSE NEIGHBOUR: 'it returns false'. Refute it at one input. -/
def playConfigsWrong : ChangeSpec := { name := "playConfigs", fn := fun _ => fun
  | [d] => { results := [.lit (.bool false)], args := [d] }
  | _ => none }
def PlayConfigsWrongFalsely : Prop := playConfigsRow.holds Tryz.pinned (OpenSpec.ofChange playConfigsWrong)

/- THE SECOND FORM. 'bulk': how many values and letters a reading holds, each counted each time it is reached (what is shared counts as often as it is met; a slice's spare places count too). A statement '..UptoSaid' is the law's where the arguments, and the package variables that the reading takes, are together of bulk at most 1048576: NARROWER than '..Said'. Prove '..Said' where nothing that the law and all that it calls make is longer than what came in: it says more and counts as full. Else prove '..UptoSaid'. A law counts once. -/
mutual
def uptoBulk {H : Type} : DataW H → Nat
  | .lit (.string bytes) => bytes.length + 1
  | .lit _ => 1
  | .nil => 1
  | .ptr d => uptoBulk d + 1
  | .slice elems spare => uptoBulkAll elems + uptoBulkAll spare + 1
  | .agg parts => uptoBulkAll parts + 1
  | .iface _ d => uptoBulk d + 1
  | .map entries => uptoBulkEntries entries + 1
  | .held _ => 1
def uptoBulkAll {H : Type} : List (DataW H) → Nat
  | [] => 0
  | d :: r => uptoBulk d + uptoBulkAll r
def uptoBulkEntries {H : Type} : List (Lit × DataW H) → Nat
  | [] => 0
  | x :: r => uptoBulkEntry x + uptoBulkEntries r
def uptoBulkEntry {H : Type} : Lit × DataW H → Nat
  | (.string bytes, d) => bytes.length + uptoBulk d + 1
  | (_, d) => uptoBulk d + 1
 end
def uptoSmall : (H : Type) → List (DataW H) → Bool := fun _ ds => decide (uptoBulkAll ds ≤ 1048576)
def OpenSpec.upto (s : _root_.Go.ChangeSpec) : _root_.Go.OpenSpec := { _root_.Go.OpenSpec.ofChange s with cond := some uptoSmall }

/-- 'boscagelaw35.SwingNone', WHERE WHAT IT READS IS OF BULK AT MOST 1048576: true; the input reads as it did. -/
def swingNoneUptoRow : OpenClaim := { program := "ytcclefkkjboaeaagreatdoor", sum := "f90a63283384780ffa8a1bad1e2f860887bb42235ca5b6d87c5614a4ddaea35f", func := "boscage/boscagelaw35.SwingNone", spec := "swingNone", inPlace := ["slices.overlaps[boscage/api.Pair]"], unfollowed := true, recurses := true, named := ["boscage/call.used"], apart := false, laid := [("boscage/call.used", laid_boscage_call_used)], narrowed := true }
def SwingNoneUptoSaid : Prop := swingNoneUptoRow.holds Tryz.pinned (OpenSpec.upto swingNoneSpec)

/-- 'boscagelaw38.SweepRefuses', WHERE WHAT IT READS IS OF BULK AT MOST 1048576: true; the input reads as it did. -/
def sweepRefusesUptoRow : OpenClaim := { program := "ytcclefkkjboaeaagreatdoor", sum := "f90a63283384780ffa8a1bad1e2f860887bb42235ca5b6d87c5614a4ddaea35f", func := "boscage/boscagelaw38.SweepRefuses", spec := "sweepRefuses", inPlace := ["slices.overlaps[boscage/api.Pair]"], unfollowed := true, recurses := true, named := ["boscage/call.used"], apart := false, laid := [("boscage/call.used", laid_boscage_call_used)], narrowed := true }
def SweepRefusesUptoSaid : Prop := sweepRefusesUptoRow.holds Tryz.pinned (OpenSpec.upto sweepRefusesSpec)

/-- 'boscagelaw39.WorldNone', WHERE WHAT IT READS IS OF BULK AT MOST 1048576: true; the input reads as it did. -/
def worldNoneUptoRow : OpenClaim := { program := "ytcclefkkjboaeaagreatdoor", sum := "f90a63283384780ffa8a1bad1e2f860887bb42235ca5b6d87c5614a4ddaea35f", func := "boscage/boscagelaw39.WorldNone", spec := "worldNone", inPlace := ["slices.overlaps[boscage/api.Pair]", "slices.overlaps[boscage/api.Ref]"], unfollowed := true, recurses := true, named := ["boscage/call.used"], apart := false, laid := [("boscage/call.used", laid_boscage_call_used)], narrowed := true }
def WorldNoneUptoSaid : Prop := worldNoneUptoRow.holds Tryz.pinned (OpenSpec.upto worldNoneSpec)

/-- 'boscagelaw44.PlayConfigs', WHERE WHAT IT READS IS OF BULK AT MOST 1048576: true; the input reads as it did. -/
def playConfigsUptoRow : OpenClaim := { program := "ytcclefkkjboaeaagreatdoor", sum := "f90a63283384780ffa8a1bad1e2f860887bb42235ca5b6d87c5614a4ddaea35f", func := "boscage/boscagelaw44.PlayConfigs", spec := "playConfigs", inPlace := ["slices.overlaps[boscage/api.Pair]", "slices.overlaps[boscage/api.Ref]"], unfollowed := true, recurses := true, named := ["boscage/call.used"], apart := false, laid := [("boscage/call.used", laid_boscage_call_used)], narrowed := true }
def PlayConfigsUptoSaid : Prop := playConfigsUptoRow.holds Tryz.pinned (OpenSpec.upto playConfigsSpec)

end Rows
end Go.Proofs.YtcclefkkjboaeaaGreatDoor
