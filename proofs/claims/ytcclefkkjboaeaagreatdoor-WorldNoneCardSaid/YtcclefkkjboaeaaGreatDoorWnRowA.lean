/- WorldNone: the row: what is laid, what is given. -/
import Derived.Test.YtcclefkkjboaeaaGreatDoorWnRun
import Derived.Test.YtcclefkkjboaeaaGreatDoorAPost
import Derived.Test.YtcclefkkjboaeaaGreatDoorRows
import Derived.ProofKit
import Derived.LaidMore
import Derived.OpenShut
import Derived.Stop.Joined
namespace Go.Proofs.YtcclefkkjboaeaaGreatDoor
open Go Go.AM Go.ChangeShapes Go.WideShapes Go.ChangeAt Go.WideMaps Go.WideElems Go.RowKit

theorem own : ownKnob Tryz.prog.godebug = none := by kernel_rfl
theorem laidOut : laidOutB Tryz.prog = true := by kernel_rfl
theorem gUsed : Tryz.prog.globalNamed "boscage/call.used" = some 0 := by kernel_rfl
theorem tUsed : (Tryz.prog.globals[0]?).map (·.type) = some 167 := by kernel_rfl
theorem cells167 : Tryz.prog.cellsOf 167 = 14 * 4 := by kernel_rfl
theorem cells166 : Tryz.prog.cellsOf 166 = 4 := by kernel_rfl
theorem cells4 : Tryz.prog.cellsOf 4 = 1 := by kernel_rfl
theorem cells3 : Tryz.prog.cellsOf 3 = 1 := by kernel_rfl
theorem cells9 : Tryz.prog.cellsOf 9 = 1 := by kernel_rfl
theorem cells23 : Tryz.prog.cellsOf 23 = 5 := by kernel_rfl
theorem mixed : Tryz.prog.follows .mixedOrders = true := by kernel_rfl

abbrev laid : List (String × DataW Unit) := [("boscage/call.used", Rows.laid_boscage_call_used)]

theorem door_met (os : Os) (args : Array Value) : laidMetH Tryz.prog laid ((World.doorLaid Tryz.prog 400 os).forCall (fun _ _ => 0) ⟨#[], args, []⟩).memory :=
  laidMetH_of_parts3 (fuel := 8) (laidMet_of_run' 8 (by kernel_rfl) (by kernel_rfl)) (by kernel_rfl) (by kernel_rfl)

def usedRows : List (List Bool) := [[false, false, false, false], [true, false, false, false], [true, true, false, false], [true, true, false, false], [true, true, true, false], [true, false, false, false], [true, false, false, false], [false, false, false, false], [false, false, false, true], [true, false, false, true], [false, false, false, true], [true, false, false, true], [false, false, false, true], [false, false, false, false]]

theorem used_all : (List.range 56).map (fun i => usedCells[i]?) = (List.range 56).map (fun i => ((usedRows[i / 4]?).bind (·[i % 4]?)).map Value.bool) := by kernel_rfl

theorem used_at (i : Nat) (hi : i < 56) : usedCells[i]? = (((usedRows[i / 4]?).bind (·[i % 4]?)).map Value.bool) := by
  have := congrArg (fun l => l[i]?) used_all
  simpa [hi] using this

theorem fields166 : ∀ (j : Nat) (f : Field), (#[{ name := "key", type := 4, offset := 0, embedded := false, tag := "", pkgPath := "boscage/call", byteOffset := 0 }, { name := "val", type := 4, offset := 1, embedded := false, tag := "", pkgPath := "boscage/call", byteOffset := 1 },
    { name := "old", type := 4, offset := 2, embedded := false, tag := "", pkgPath := "boscage/call", byteOffset := 2 }, { name := "h", type := 4, offset := 3, embedded := false, tag := "", pkgPath := "boscage/call", byteOffset := 3 }] : Array Field)[j]? = some f → f.type = 4 ∧ f.offset = j := by
  intro j f h
  match j, h with
  | 0, h => simp at h; subst h; exact ⟨rfl, rfl⟩
  | 1, h => simp at h; subst h; exact ⟨rfl, rfl⟩
  | 2, h => simp at h; subst h; exact ⟨rfl, rfl⟩
  | 3, h => simp at h; subst h; exact ⟨rfl, rfl⟩
  | n + 4, h => simp at h

/-- What the condition gives: the table's cells. -/
theorem of_laid {W : World} (h : laidMetH Tryz.prog laid W) : ∃ arr el, W.heap[0]? = some (.cells arr el (0, 0)) ∧ arr.size = usedCells.length ∧ ∀ (i : Nat) (x : Value), usedCells[i]? = some x → arr[i]? = some x := by
  rw [MakeChecks.laidMetH_plain _ _ _ (by kernel_rfl)] at h
  obtain ⟨ps, ⟨g, t, cs, fuel, p, q, hg, ht, hvar, hd, _, hps⟩, _, hz⟩ := h
  obtain rfl := Option.some.inj (gUsed.symm.trans hg)
  obtain rfl := Option.some.inj (tUsed.symm.trans ht)
  obtain ⟨hlen, hat⟩ := trod_boolsS (m := 4) (rows := usedRows) Tryz.underlying167 Tryz.underlying166 rfl fields166 Tryz.underlying4 cells166 cells4 cells167 hd
  have hsz : cs.size = 56 := by simpa using hlen
  simp only [World.var?, hg, Option.bind_some] at hvar
  split at hvar
  · rename_i c t' fr hh
    simp only [Option.some.injEq] at hvar
    subst hvar
    obtain ⟨⟨c2, t2, h2⟩, _⟩ := hz 0 0 (by rw [hps]; simp [MemPlace.row, hsz])
    rw [hh] at h2; cases h2
    refine ⟨c, t', hh, by rw [hsz]; rfl, fun i x hx => ?_⟩
    have hi : i < 56 := by
      have := (List.getElem?_eq_some_iff.1 hx).1
      exact this
    have := hat (i / 4) (i % 4) (by omega) (by omega)
    rw [show i / 4 * 4 + i % 4 = i by omega] at this
    rw [used_at i hi] at hx
    rw [← hx, ← this]
    simp
  · cases hvar

def ρ₀ : Rho := fun b => if b = 0 then some ⟨0, 0, usedCells.length, usedCells.length, 0, true⟩ else none

theorem ρ₀_ro : ∀ b m, ρ₀ b = some m → m.ro = true := by
  intro b m h
  unfold ρ₀ at h
  split at h
  · cases h; rfl
  · cases h

theorem ρ₀_glob : GlobOK ρ₀ := by
  intro g hg
  have : g = 0 := by omega
  subst this
  exact ⟨_, rfl, rfl, rfl⟩

theorem wrel_of_laid {W : World} (h : laidMetH Tryz.prog laid W) : WRel Tryz.prog mts ρ₀ σ₀ W := by
  obtain ⟨arr, el, hh, hs, hc⟩ := of_laid h
  exact wrel_laid hh hs (by decide +kernel) hc

theorem cells53 : Tryz.prog.cellsOf 53 = 6 := by kernel_rfl
theorem readable5 : ∀ t, t ∈ Tryz.f5.params.toList → Tryz.prog.readableRec t = true ∧ t < Tryz.prog.types.size := by
  rw [Tryz.params5]
  intro t ht
  have hall : ([53].all fun t => Tryz.prog.readableRec t && decide (t < Tryz.prog.types.size)) = true := by kernel_rfl
  simpa using List.all_eq_true.1 hall t (by simpa using ht)
end Go.Proofs.YtcclefkkjboaeaaGreatDoor
