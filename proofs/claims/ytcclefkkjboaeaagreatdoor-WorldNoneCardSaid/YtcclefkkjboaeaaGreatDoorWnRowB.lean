/- WorldNone: the row, for every memory. -/
import Derived.Test.YtcclefkkjboaeaaGreatDoorWnRowA
import Derived.Test.YtcclefkkjboaeaaGreatDoorWnLaw
import Derived.Test.YtcclefkkjboaeaaGreatDoorAPost
import Derived.Test.YtcclefkkjboaeaaGreatDoorRows
import Derived.ProofKit
import Derived.LaidMore
import Derived.OpenShut
import Derived.Stop.Joined
namespace Go.Proofs.YtcclefkkjboaeaaGreatDoor
open Go Go.AM Go.ChangeShapes Go.WideShapes Go.ChangeAt Go.WideMaps Go.WideElems Go.RowKit
set_option maxRecDepth 100000
theorem worldNone_lifted (os : Os) (started : os.Started) (H : Type) (enc : TypeId × Value → H) :
    ReturnsInHanded {} Tryz.checked os 5 .any (fun w args => (Rows.worldNoneSpec.pre enc Tryz.prog Tryz.f5 [] false w args ∧ laidMetH Tryz.prog laid w) ∧ sizedMet enc Tryz.prog Tryz.f5 (OpenSpec.ofChange Rows.worldNoneSpec) false w args)
      (Rows.worldNoneSpec.post enc Tryz.prog Tryz.f5 false true false false) := by
  refine returnsInHanded_of_change_and (C := Tryz.checked) (X := fun w _ => laidMetH Tryz.prog laid w) (fun _ _ _ hh h => h.of_heap hh) own started (by kernel_rfl) Tryz.func5
    (ChangeSpec.witness_shaped (enc := enc) (C := Tryz.checked) (os := os) (X := fun w _ => laidMetH Tryz.prog laid w) false (World.doorLaid Tryz.prog 400 os) #[.agg #[.int .i64 0, .int .i64 0, .string .empty, .string .empty, .string .empty, .int .i64 0]] 8 rfl (World.shaped_of_RefB (by kernel_rfl) (by kernel_rfl)) (by kernel_rfl) (by kernel_rfl) (by kernel_rfl) (door_met os _)) ?_
  intro W base args ds gs before hval0 hW _ _ hL _
  have hval : ∀ (j : Nat) t v, Tryz.f5.params[j]? = some t → args[j]? = some v → Value.okWide Tryz.prog W .any base t v := hval0
  have hW' := hW
  obtain ⟨p, q, hA0, hV, rfl, hfz, hnd⟩ := hW
  have hA : DataW.TrodAll enc Tryz.prog W 0 (fun _ => true) true Tryz.f5.params.toList args.toList ds p := hA0
  rw [Tryz.params5] at hA hval
  obtain ⟨v0, d0, rfl, rfl, h0⟩ := trodAll_one hA
  obtain ⟨rfl, rfl⟩ := trodVars_none hV
  obtain ⟨n, o, h, k, v, old, rfl⟩ := open_entry Tryz.underlying53 Tryz.underlying23 Tryz.underlying3 Tryz.underlying9 cells3 cells9 cells23 cells53 ⟨rfl, rfl⟩ ⟨rfl, rfl⟩ ⟨rfl, rfl⟩ ⟨rfl, rfl⟩ ⟨rfl, rfl⟩ ⟨rfl, rfl⟩ ⟨rfl, rfl⟩ (hval 0 53 v0 rfl rfl) h0
  obtain ⟨N, hN⟩ := run5 n o h k v old
  refine (law_calls mixed tableOK hN (args' := #[.agg #[.int .i64 n, .int .i64 o, .string k, .string v, .string old, .int .i64 h]]) ?_ (wrel_of_laid hL) ρ₀_glob ρ₀_ro).mono fun e W' ⟨he, hb⟩ => ?_
  · refine .cons ?_ (.nil _)
    exact LRel.agg (l := [.int .i64 n, .int .i64 o, .string k, .string v, .string old, .int .i64 h]) (a' := #[.int .i64 n, .int .i64 o, .string k, .string v, .string old, .int .i64 h])
      (.cons (.int _ _) (.cons (.int _ _) (.cons (.string _) (.cons (.string _) (.cons (.string _) (.cons (.int _ _) (.nil _)))))))
  · subst he
    exact ⟨_, rfl, law_post (tb := 4) laidOut hW' rfl readable5 hb rfl (by kernel_rfl) Tryz.underlying4⟩
end Go.Proofs.YtcclefkkjboaeaaGreatDoor
