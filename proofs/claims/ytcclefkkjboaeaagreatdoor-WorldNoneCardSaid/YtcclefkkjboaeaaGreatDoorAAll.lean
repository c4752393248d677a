/- A part of the proof: AAll. -/
import Derived.Test.YtcclefkkjboaeaaGreatDoorASound4
import Derived.Test.YtcclefkkjboaeaaGreatDoorADraw3
namespace Go.AM
open Go
theorem sound {P : Program} {mts : List TypeId} {F : FuncId → Option AFunc} (hP : P.follows .mixedOrders = true) (hT : TableOK P mts F) {n : Nat} {f : FuncId} {args : List Value} {σ : AW} {v : Value} {σ' : AW} (hr : call F n f args σ = some (v, σ'))
    {ρ : Rho} {w : World} {args' : Array Value} (ha : LRel ρ args args'.toList) (hw : WRel P mts ρ σ w) (hg : GlobOK ρ) : CallsOK P mts ρ σ w f args' v σ' :=
  call_sound hT (draw_ok hP) hr ha hw hg
end Go.AM
