/- What a law's call leaves: its arguments read as they did. -/
import Derived.Test.YtcclefkkjboaeaaGreatDoorAData

namespace Go.AM
open Go Go.RowKit Go.ChangeShapes Go.WideShapes Go.ChangeAt Go.WideElems

section
variable {H : Type} {enc : TypeId × Value → H} {P : Program}

theorem array5 {α : Type} {cs : Array α} (h : cs.size = 5) : ∃ c0 c1 c2 c3 c4, cs = #[c0, c1, c2, c3, c4] := by
  obtain ⟨l⟩ := cs
  match l, h with
  | [c0, c1, c2, c3, c4], _ => exact ⟨c0, c1, c2, c3, c4, rfl⟩

theorem trod_struct5 {base : Nat} {spare : Nat → Bool} {held : Bool} {w : World} {t : TypeId} {f0 f1 f2 f3 f4 : Field} {fuel : Nat} {cs : List Value} {x : DataW H × List MemPlace} (ht : P.underlying t = some (.struct #[f0, f1, f2, f3, f4]))
    (h : DataW.trod enc P w base spare held fuel t cs = some x) :
    ∃ y0 y1 y2 y3 y4 n, DataW.trod enc P w base spare held n f0.type ((cs.drop f0.offset).take (P.cellsOf f0.type)) = some y0 ∧
      DataW.trod enc P w base spare held n f1.type ((cs.drop f1.offset).take (P.cellsOf f1.type)) = some y1 ∧ DataW.trod enc P w base spare held n f2.type ((cs.drop f2.offset).take (P.cellsOf f2.type)) = some y2 ∧
      DataW.trod enc P w base spare held n f3.type ((cs.drop f3.offset).take (P.cellsOf f3.type)) = some y3 ∧ DataW.trod enc P w base spare held n f4.type ((cs.drop f4.offset).take (P.cellsOf f4.type)) = some y4 := by
  obtain ⟨xs, n, _, rfl, hl, hlen, hf⟩ := DataW.trod_struct ht h
  match xs, hlen with
  | [y0, y1, y2, y3, y4], _ => exact ⟨y0, y1, y2, y3, y4, n, by simpa using hf 0 f0 rfl, by simpa using hf 1 f1 rfl, by simpa using hf 2 f2 rfl, by simpa using hf 3 f3 rfl, by simpa using hf 4 f4 rfl⟩

/-- A call: a number, three texts, a number. -/
theorem open_call {base : Nat} {W : World} {t ti ts : TypeId} {f0 f1 f2 f3 f4 : Field} {v : Value} {d : DataW H} {ps : List MemPlace} {base' : Nat} {sp : Nat → Bool} {held : Bool} (ht : P.underlying t = some (.struct #[f0, f1, f2, f3, f4])) (hi : P.underlying ti = some (.int .i64)) (hs : P.underlying ts = some .string)
    (ci : P.cellsOf ti = 1) (cst : P.cellsOf ts = 1) (ct : P.cellsOf t = 5) (e0 : f0.type = ti ∧ f0.offset = 0) (e1 : f1.type = ts ∧ f1.offset = 1) (e2 : f2.type = ts ∧ f2.offset = 2) (e3 : f3.type = ts ∧ f3.offset = 3) (e4 : f4.type = ti ∧ f4.offset = 4)
    (hv : Value.okWide P W .any base t v) (h : DataW.Trod enc P W base' sp held t v d ps) : ∃ (o h : Int) (k v' old : ByteArray), v = .agg #[.int .i64 o, .string k, .string v', .string old, .int .i64 h] := by
  simp only [Value.okWide, ht] at hv
  obtain ⟨cs, rfl, hcs, _⟩ := hv
  rw [ct] at hcs
  obtain ⟨c0, c1, c2, c3, c4, rfl⟩ := array5 hcs
  obtain ⟨fuel, h⟩ := h
  obtain ⟨y0, y1, y2, y3, y4, n, h0, h1, h2, h3, h4⟩ := trod_struct5 ht h
  rw [e0.1, e0.2, ci] at h0
  rw [e1.1, e1.2, cst] at h1
  rw [e2.1, e2.2, cst] at h2
  rw [e3.1, e3.2, cst] at h3
  rw [e4.1, e4.2, ci] at h4
  simp only [Value.cells, List.drop, List.take] at h0 h1 h2 h3 h4
  obtain ⟨o, g0, _⟩ := DataW.trod_int hi h0
  obtain ⟨k, g1, _⟩ := DataW.trod_string hs h1
  obtain ⟨v, g2, _⟩ := DataW.trod_string hs h2
  obtain ⟨old, g3, _⟩ := DataW.trod_string hs h3
  obtain ⟨hh, g4, _⟩ := DataW.trod_int hi h4
  cases g0; cases g1; cases g2; cases g3; cases g4
  exact ⟨o, hh, k, v, old, rfl⟩

theorem array6 {α : Type} {cs : Array α} (h : cs.size = 6) : ∃ c0 c1 c2 c3 c4 c5, cs = #[c0, c1, c2, c3, c4, c5] := by
  obtain ⟨l⟩ := cs
  match l, h with
  | [c0, c1, c2, c3, c4, c5], _ => exact ⟨c0, c1, c2, c3, c4, c5, rfl⟩

theorem trod_struct2 {base : Nat} {spare : Nat → Bool} {held : Bool} {w : World} {t : TypeId} {f0 f1 : Field} {fuel : Nat} {cs : List Value} {x : DataW H × List MemPlace} (ht : P.underlying t = some (.struct #[f0, f1]))
    (h : DataW.trod enc P w base spare held fuel t cs = some x) :
    ∃ y0 y1 n, DataW.trod enc P w base spare held n f0.type ((cs.drop f0.offset).take (P.cellsOf f0.type)) = some y0 ∧
      DataW.trod enc P w base spare held n f1.type ((cs.drop f1.offset).take (P.cellsOf f1.type)) = some y1 := by
  obtain ⟨xs, n, _, rfl, hl, hlen, hf⟩ := DataW.trod_struct ht h
  match xs, hlen with
  | [y0, y1], _ => exact ⟨y0, y1, n, by simpa using hf 0 f0 rfl, by simpa using hf 1 f1 rfl⟩

/-- An entry: a number and a call. -/
theorem open_entry {base : Nat} {W : World} {te t ti ts : TypeId} {h0 h1 f0 f1 f2 f3 f4 : Field} {v : Value} {d : DataW H} {ps : List MemPlace} {base' : Nat} {sp : Nat → Bool} {held : Bool} (hte : P.underlying te = some (.struct #[h0, h1])) (ht : P.underlying t = some (.struct #[f0, f1, f2, f3, f4])) (hi : P.underlying ti = some (.int .i64)) (hs : P.underlying ts = some .string)
    (ci : P.cellsOf ti = 1) (cst : P.cellsOf ts = 1) (ct : P.cellsOf t = 5) (cte : P.cellsOf te = 6) (d0 : h0.type = ti ∧ h0.offset = 0) (d1 : h1.type = t ∧ h1.offset = 1) (e0 : f0.type = ti ∧ f0.offset = 0) (e1 : f1.type = ts ∧ f1.offset = 1) (e2 : f2.type = ts ∧ f2.offset = 2) (e3 : f3.type = ts ∧ f3.offset = 3) (e4 : f4.type = ti ∧ f4.offset = 4)
    (hv : Value.okWide P W .any base te v) (h : DataW.Trod enc P W base' sp held te v d ps) : ∃ (n o h : Int) (k v' old : ByteArray), v = .agg #[.int .i64 n, .int .i64 o, .string k, .string v', .string old, .int .i64 h] := by
  simp only [Value.okWide, hte] at hv
  obtain ⟨cs, rfl, hcs, _⟩ := hv
  rw [cte] at hcs
  obtain ⟨b, c0, c1, c2, c3, c4, rfl⟩ := array6 hcs
  obtain ⟨fuel, h⟩ := h
  obtain ⟨z0, z1, nn, i0, i1⟩ := trod_struct2 hte h
  rw [d0.1, d0.2, ci] at i0
  rw [d1.1, d1.2, ct] at i1
  obtain ⟨y0, y1, y2, y3, y4, n, h0, h1, h2, h3, h4⟩ := trod_struct5 ht i1
  rw [e0.1, e0.2, ci] at h0
  rw [e1.1, e1.2, cst] at h1
  rw [e2.1, e2.2, cst] at h2
  rw [e3.1, e3.2, cst] at h3
  rw [e4.1, e4.2, ci] at h4
  simp only [Value.cells, List.drop, List.take] at i0 h0 h1 h2 h3 h4
  obtain ⟨nT, g, _⟩ := DataW.trod_int hi i0
  obtain ⟨o, g0, _⟩ := DataW.trod_int hi h0
  obtain ⟨k, g1, _⟩ := DataW.trod_string hs h1
  obtain ⟨v, g2, _⟩ := DataW.trod_string hs h2
  obtain ⟨old, g3, _⟩ := DataW.trod_string hs h3
  obtain ⟨hh, g4, _⟩ := DataW.trod_int hi h4
  cases g; cases g0; cases g1; cases g2; cases g3; cases g4
  exact ⟨nT, o, hh, k, v, old, rfl⟩

theorem trodAll_stays (hl : laidOutB P = true) {W W' : World} {sp : Nat → Bool} : ∀ (ts : List TypeId) (vs : List Value) (ds : List (DataW H)) (ps : List MemPlace), (∀ t, t ∈ ts → P.readableRec t = true ∧ t < P.types.size) →
    DataW.TrodAll enc P W 0 (fun _ => true) true ts vs ds ps → (∀ p, p ∈ ps → W.sameAt W' p) → (∀ p, p ∈ ps → sp p.block = true) → DataW.TrodAll enc P W' 0 sp true ts vs ds ps
  | [], [], [], ps, _, h, _, _ => h
  | t :: ts, v :: vs, d :: ds, ps, hr, h, hs, hsp => by
    obtain ⟨p, q, h1, h2, rfl⟩ := h
    have ht := hr t (List.mem_cons_self ..)
    exact ⟨p, q, Trod_stays hl ht.1 ht.2 h1 (fun x hx => hs x (List.mem_append.2 (.inl hx))) (fun x hx => hsp x (List.mem_append.2 (.inl hx))),
      trodAll_stays hl ts vs ds q (fun t ht => hr t (List.mem_cons_of_mem _ ht)) h2 (fun x hx => hs x (List.mem_append.2 (.inr hx))) (fun x hx => hsp x (List.mem_append.2 (.inr hx))), rfl⟩
  | [], [], _ :: _, _, _, h, _, _ => h.elim
  | [], _ :: _, _, _, _, h, _, _ => by cases ‹List (DataW H)› <;> exact h.elim
  | _ :: _, [], _, _, _, h, _, _ => by cases ‹List (DataW H)› <;> exact h.elim
  | _ :: _, _ :: _, [], _, _, h, _, _ => h.elim

theorem frozen_below {W W' : World} (hb : Below W.heap.size W W') (a : Addr) (ha : a.block < W.heap.size) : W'.frozen? a = W.frozen? a := by
  simp only [World.frozen?, hb.block a.block ha]

theorem same_below {W W' : World} (hb : Below W.heap.size W W') {p : MemPlace} (hp : p.block < W.heap.size) : W.sameAt W' p := by
  cases p with
  | cell b off => simp only [World.sameAt, World.cell?, hb.block b hp]
  | map b => exact hb.block b hp

theorem kept_below {W W' : World} (hb : Below W.heap.size W W') (may : MemPlace → Prop) : W.keptBut W' may := by
  refine ⟨hb.os, hb.output, fun i hi => ?_⟩
  rw [hb.block i hi]
  cases h : W.heap[i]? with
  | none => trivial
  | some o => cases o <;> first | exact ⟨rfl, rfl, rfl, fun _ _ => rfl⟩ | exact .inr ⟨rfl, rfl⟩ | rfl

/-- **A law's post**: it returned true, and below the blocks that stood the world is as it was. -/
theorem law_post {f : Func} {s : ChangeSpec} {apart fresh handsOn again : Bool} {W W' : World} {args : Array Value} {ds gs : List (DataW H)} {before : List MemPlace} {tb : TypeId}
    (hl : laidOutB P = true) (hW : DataW.Whole enc P f.params.toList s.vars apart W args.toList ds gs before) (hv : s.vars = []) (hr : ∀ t, t ∈ f.params.toList → P.readableRec t = true ∧ t < P.types.size)
    (hb : Below W.heap.size W W') (hfn : s.fn H (ds ++ gs) = { results := [.lit (.bool true)], args := ds }) (hrt : f.resultTypes = #[tb]) (htb : P.underlying tb = some .bool) :
    s.post enc P f apart fresh handsOn again W args (.bool true) W' := by
  have hlt : ∀ p ∈ before, p.block < W.heap.size := fun p hp => hW.lt p hp
  have hW0 := hW
  obtain ⟨p, q, hA, hV, rfl, hz, hn⟩ := hW
  have hgq : gs = [] ∧ q = [] := by
    rw [hv] at hV
    exact trodVars_none hV
  obtain ⟨rfl, rfl⟩ := hgq
  simp only [List.append_nil] at hlt hz hn hW0
  have hres : ∀ (b : Nat) (sp : Nat → Bool) (hd : Bool), DataW.TrodAll enc P W' b sp hd f.resultTypes.toList ((Value.bool true).resultList f.resultTypes.size) (s.fn H (ds ++ [])).results [] := by
    intro b sp hd
    rw [hfn, hrt]
    exact trodAll_mk1 (shut_bool htb _)
  have hargs : ∀ sp : Nat → Bool, (∀ x ∈ p, sp x.block = true) → DataW.TrodAll enc P W' 0 sp true f.params.toList args.toList (s.fn H (ds ++ [])).args p := by
    intro sp hsp
    rw [hfn]
    exact trodAll_stays hl _ _ _ _ hr hA (fun x hx => same_below hb (hlt x hx)) hsp
  have hvars : ∀ sp : Nat → Bool, DataW.TrodVars enc P W' sp s.vars (s.fn H (ds ++ [])).vars [] := by
    intro sp
    rw [hfn, hv]
    exact rfl
  have hold : ∀ x ∈ p, (fun b => decide (b < W.heap.size)) x.block = true := fun x hx => by simpa using hlt x hx
  refine ⟨ds, [], p, [], p, [], hW0, hres _ _ _, hargs _ hold, hvars _, kept_below hb _, fun _ => ?_⟩
  refine ⟨?_, _, _, ([] ++ p) ++ [], ⟨[] ++ p, [], trodAll_append (hargs _ (fun _ _ => rfl)) (hres _ _ _), hvars _, rfl, ?_, ?_⟩, ?_⟩
  · exact ok_one hrt rfl (okWide_bool_mk htb _)
  · intro b off hp
    simp only [List.nil_append, List.append_nil] at hp
    rw [frozen_below hb _ (hlt _ hp)]
    exact hz b off hp
  · intro ha
    simpa using hn ha
  · intro x hx _
    simpa using hx

end
end Go.AM
