/- From a row's words to the abstract machine's: what is laid, what comes in, what stays. -/
import Derived.Test.YtcclefkkjboaeaaGreatDoorAAll
import Derived.ProofKit
import Derived.DataReads

namespace Go.AM
open Go Go.RowKit

section
variable {P : Program} {mts : List TypeId}

/-! ### The table -/

inductive TabOK (P : Program) (mts : List TypeId) : List (Nat × AFunc) → Prop where
  | nil : TabOK P mts []
  | cons (i : Nat) (a : AFunc) (l : List (Nat × AFunc)) (fn : Func) : P.funcs[i]? = some fn → compFunc P mts fn = some a → TabOK P mts l → TabOK P mts ((i, a) :: l)

def mkT : List (Nat × AFunc) → T AFunc
  | [] => .leaf
  | (i, a) :: l => (mkT l).set i a

theorem tableOK_of {l : List (Nat × AFunc)} (h : TabOK P mts l) {t : T AFunc} (e : t = mkT l) : TableOK P mts (fun f => t.get f) := by
  subst e
  induction h with
  | nil => intro f af h; cases h
  | cons i a l fn h1 h2 _ ih =>
    intro f af h
    simp only [mkT, T.get_set] at h
    by_cases e : f = i
    · subst e; simp at h; subst h; exact ⟨fn, h1, h2⟩
    · simp only [e, if_false] at h; exact ih f af h

/-! ### A law -/

theorem law_calls {F : FuncId → Option AFunc} (hP : P.follows .mixedOrders = true) (hT : TableOK P mts F) {n : Nat} {f : FuncId} {args : List Value} {σ : AW} (hr : (call F n f args σ).map (·.1) = some (.bool true))
    {ρ : Rho} {w : World} {args' : Array Value} (ha : LRel ρ args args'.toList) (hw : WRel P mts ρ σ w) (hg : GlobOK ρ) (hro : ∀ b m, ρ b = some m → m.ro = true) :
    Calls P f args' w fun e w' => e = .returned (.bool true) ∧ Below w.heap.size w w' := by
  simp only [Option.map_eq_some_iff] at hr
  obtain ⟨⟨v, σ'⟩, hc, hv⟩ := hr
  simp only at hv
  subst hv
  refine (sound hP hT hc ha hw hg).mono fun e w' h => ?_
  obtain ⟨ρ', v', rfl, hvr, hst⟩ := h
  refine ⟨by cases hvr; rfl, hst.os, hst.tape, hst.out, hst.size, fun k hk => hst.cframe k hk ?_⟩
  rintro ⟨b, m, hb, _, hr⟩
  rw [hro b m hb] at hr; cases hr

/-! ### A laid table of bools -/

def lits : List Bool → List (DataW Unit) := List.map fun b => .lit (.bool b)

theorem trod_bool1 {enc : TypeId × Value → Unit} {w : World} {base : Nat} {sp : Nat → Bool} {held : Bool} {fuel : Nat} {t : TypeId} {cs : List Value} {b : Bool} {p : List MemPlace} (ht : P.underlying t = some .bool)
    (h : DataW.trod enc P w base sp held fuel t cs = some (.lit (.bool b), p)) : cs = [.bool b] := by
  obtain ⟨b', hc, hx⟩ := DataW.trod_bool ht h
  cases hx; exact hc

theorem trod_array {enc : TypeId × Value → Unit} {w : World} {base : Nat} {sp : Nat → Bool} {held : Bool} {fuel : Nat} {t e : TypeId} {n : Nat} {cs : List Value} {d : DataW Unit} {p : List MemPlace} (ht : P.underlying t = some (.array n e))
    (h : DataW.trod enc P w base sp held fuel t cs = some (d, p)) :
    ∃ (fuel' : Nat) (xs : List (DataW Unit × List MemPlace)), cs.length = P.cellsOf t ∧ xs.length = n ∧ d = .agg (xs.map (·.1)) ∧ ∀ i, i < n → DataW.trod enc P w base sp held fuel' e ((cs.drop (i * P.cellsOf e)).take (P.cellsOf e)) = xs[i]? := by
  cases fuel with
  | zero => simp [DataW.trod] at h
  | succ fuel =>
    simp only [DataW.trod, ht] at h
    split at h
    · rename_i hl
      simp only [Option.map_eq_some_iff, Prod.mk.injEq] at h
      obtain ⟨xs, hm, hd, _⟩ := h
      refine ⟨fuel, xs, hl, by simpa using mapM_some_length hm, hd.symm, fun i hi => ?_⟩
      exact mapM_some_get hm i i (by simp [hi])
    · cases h

/-- An array of arrays of bools, cell by cell. -/
theorem trod_boolsS {enc : TypeId × Value → Unit} {w : World} {base : Nat} {sp : Nat → Bool} {held : Bool} {fuel : Nat} {t e b : TypeId} {n m : Nat} {cs : List Value} {p : List MemPlace} {rows : List (List Bool)} {fs : Array Field}
    (ht : P.underlying t = some (.array n e)) (he : P.underlying e = some (.struct fs)) (hfs : fs.size = m) (hf : ∀ (j : Nat) (f : Field), fs[j]? = some f → f.type = b ∧ f.offset = j) (hb : P.underlying b = some .bool) (hce : P.cellsOf e = m) (hcb : P.cellsOf b = 1) (hct : P.cellsOf t = n * m)
    (h : DataW.trod enc P w base sp held fuel t cs = some (.agg (rows.map fun r => .agg (lits r)), p)) :
    cs.length = n * m ∧ ∀ i j, i < n → j < m → cs[i * m + j]? = (((rows[i]?).bind (·[j]?)).map Value.bool) := by
  obtain ⟨f1, xs, hl, hxl, hd, hx⟩ := trod_array ht h
  refine ⟨hl.trans hct, fun i j hi hj => ?_⟩
  have h1 := hx i hi
  rw [hce] at h1
  simp only [DataW.agg.injEq] at hd
  have hxi : xs[i]? = some xs[i] := by simp [hxl, hi]
  rw [hxi] at h1
  generalize xs[i] = y at h1 hxi
  obtain ⟨d1, p1⟩ := y
  obtain ⟨ys, f2, _, hxy, _, hyl, hy0⟩ := DataW.trod_struct he h1
  simp only [Prod.mk.injEq] at hxy
  have hd1 := hxy.1
  rw [hfs] at hyl
  have hfj : fs[j]? = some fs[j] := by simp [hfs, hj]
  have hj2 := hf j _ hfj
  have hy := hy0 j _ hfj
  rw [hj2.1, hj2.2, hcb] at hy
  have hrow : ∃ r, rows[i]? = some r ∧ d1 = .agg (lits r) := by
    have := congrArg (fun l => l[i]?) hd
    simp only [List.getElem?_map, hxi, Option.map_some] at this
    cases hr : rows[i]? with
    | none => rw [hr] at this; simp at this
    | some r => rw [hr] at this; simp at this; exact ⟨r, rfl, this.symm⟩
  obtain ⟨r, hr, hd1r⟩ := hrow
  rw [hd1r] at hd1
  simp only [DataW.agg.injEq, lits] at hd1
  have h2 := hy
  have hyj : ys[j]? = some ys[j] := by simp [hyl, hj]
  rw [hyj] at h2
  generalize ys[j] = z at h2 hyj
  obtain ⟨d2, p2⟩ := z
  have hcell : ∃ q, r[j]? = some q ∧ d2 = .lit (.bool q) := by
    have := congrArg (fun l => l[j]?) hd1
    simp only [List.getElem?_map, hyj, Option.map_some] at this
    cases hr : r[j]? with
    | none => rw [hr] at this; simp at this
    | some q => rw [hr] at this; simp at this; exact ⟨q, rfl, this.symm⟩
  obtain ⟨q, hq, hd2⟩ := hcell
  subst hd2
  have h3 := trod_bool1 hb h2
  have h4 := congrArg (fun l => l[0]?) h3
  simp only [List.getElem?_take, List.getElem?_drop] at h4
  simp [hj] at h4
  simp [hr, hq, h4]

/-- A closed block of scalars, on either side. -/
theorem wrel_laid {w : World} {cells : List Value} {ty : TypeId} {arr : Array Value} {el : TypeId} (hh : w.heap[0]? = some (.cells arr el (0, 0))) (hlen : arr.size = cells.length) (hsc : cells.all scalarOk = true)
    (hc : ∀ (i : Nat) (x : Value), cells[i]? = some x → arr[i]? = some x) :
    WRel P mts (fun b => if b = 0 then some ⟨0, 0, cells.length, cells.length, 0, true⟩ else none) { heap := .node (some (.cells cells ty 0 true)) .leaf .leaf, next := 1 } w := by
  have hget : ∀ b, (T.node (some (AObj.cells cells ty 0 true)) .leaf .leaf).get b = if b = 0 then some (.cells cells ty 0 true) else none := by
    intro b
    cases b with
    | zero => rfl
    | succ m => simp [T.get]
  refine { dom := fun b m e => ?_, obj := fun b m ao e e' => ?_, disj := fun b b' m m' e e' hbb _ => ?_, fresh := fun b hb => ?_ }
  · split at e
    · rename_i hb; cases e; subst hb; exact ⟨Nat.zero_lt_one, lt_of_get hh⟩
    · cases e
  · split at e
    · rename_i hb; cases e; subst hb
      rw [hget] at e'; simp at e'; subst e'
      refine ⟨rfl, rfl, arr, el, 0, 0, hh, by simp [hlen], rfl, Nat.le_refl _, fun j _ _ => by omega, fun i x hx => ⟨x, by simpa using hc i x hx, scalar_rel _ ?_⟩⟩
      exact List.all_eq_true.1 hsc x (List.mem_of_getElem? hx)
    · cases e
  · split at e
    · rename_i hb
      split at e'
      · rename_i hb'; omega
      · cases e'
    · cases e
  · rw [hget, if_neg (by simp only at hb; omega)]

end
end Go.AM
