/- Each operation but calls: what the abstract machine does, the model does. -/
import Derived.Test.YtcclefkkjboaeaaGreatDoorAPrim
import Derived.Laws.Entries
import Derived.Laws.Tables

namespace Go.AM
open Go

section
variable {P : Program} {mts : List TypeId}

/-- What an operation gives, beside the abstract machine's. -/
def Sim (P : Program) (mts : List TypeId) (ρ : Rho) (σ : AW) (w : World) (s : Sem Next) (v : Value) (σ' : AW) : Prop :=
  ∃ nx v' w' ρ', s.run P w = .ok nx w' ∧ (nx = .value v' ∨ (nx = .skip ∧ v' = undef)) ∧ VRel ρ' v v' ∧ Step P mts ρ σ w ρ' σ' w'

/-- An operation that gives a value. -/
def valOf (s : Sem Value) : Sem Next := do pure (.value (← s))

theorem Sim.value {ρ ρ' : Rho} {σ σ' : AW} {w w' : World} {s : Sem Value} {v v' : Value} (hr : s.run P w = .ok v' w') (hv : VRel ρ' v v') (hs : Step P mts ρ σ w ρ' σ' w') :
    Sim P mts ρ σ w (do pure (.value (← s))) v σ' :=
  ⟨.value v', v', w', ρ', by simp [hr], .inl rfl, hv, hs⟩

theorem Sim.unit {ρ ρ' : Rho} {σ σ' : AW} {w w' : World} {s : Sem Unit} (hr : s.run P w = .ok () w') (hs : Step P mts ρ σ w ρ' σ' w') :
    Sim P mts ρ σ w (do s; pure .skip) undef σ' :=
  ⟨.skip, undef, w', ρ', by simp [hr], .inr ⟨rfl, rfl⟩, undef_rel _, hs⟩

theorem Sim.pure {ρ : Rho} {σ : AW} {w : World} {v v' : Value} (h : WRel P mts ρ σ w) (hv : VRel ρ v v') :
    Sim P mts ρ σ w (pure (.value v')) v σ := ⟨.value v', v', w, ρ, rfl, .inl rfl, hv, .refl h⟩

/-! ### The tables -/

theorem run_sizeT {t : TypeId} {n : Nat} (h : sizeT P t = some n) (w : World) : (sizeOf t).run P w = .ok n w := by
  simp only [sizeT, Option.map_eq_some_iff] at h
  obtain ⟨i, hi, rfl⟩ := h
  simp [sizeOf, typeInfo, hi]

theorem run_infoT {t : TypeId} {n : Nat} (h : bytesT P t = some n) (w : World) : ∃ i, (typeInfo t).run P w = .ok i w ∧ i.bytes = n := by
  simp only [bytesT, Option.map_eq_some_iff] at h
  obtain ⟨i, hi, rfl⟩ := h
  exact ⟨i, by simp [typeInfo, hi], rfl⟩

theorem run_zeroT {t : TypeId} {z : Value} (h : zeroT P t = some z) (w : World) : (zeroValue t).run P w = .ok z w := by
  simp only [zeroT, Option.bind_eq_some_iff] at h
  obtain ⟨i, hi, z', hz, hc⟩ := h
  cases hb : constOk z' with
  | false => simp [hb] at hc
  | true => simp [hb] at hc; subst hc; simp [zeroValue, typeInfo, hi, hz]

theorem zeroT_ok {t : TypeId} {z : Value} (h : zeroT P t = some z) : constOk z = true := by
  simp only [zeroT, Option.bind_eq_some_iff] at h
  obtain ⟨i, hi, z', hz, hc⟩ := h
  cases hb : constOk z' with
  | false => simp [hb] at hc
  | true => simp [hb] at hc; subst hc; exact hb

theorem scalar_rel (ρ : Rho) {v : Value} (h : scalarOk v = true) : VRel ρ v v := by
  unfold scalarOk at h
  split at h <;> first | (constructor; done) | cases h

theorem const_rel (ρ : Rho) {v : Value} (h : constOk v = true) : VRel ρ v v := by
  unfold constOk at h
  split at h
  · rename_i cs
    refine .agg cs cs rfl fun i x y hx hy => ?_
    rw [hx] at hy; cases hy
    refine scalar_rel ρ (List.all_eq_true.1 h x ?_)
    exact List.mem_of_getElem? (i := i) (by simpa using hx)
  · rename_i cs
    refine .tuple cs cs rfl fun i x y hx hy => ?_
    rw [hx] at hy; cases hy
    refine scalar_rel ρ (List.all_eq_true.1 h x ?_)
    exact List.mem_of_getElem? (i := i) (by simpa using hx)
  · exact scalar_rel ρ h

theorem run_aggT {t : TypeId} {b : Bool} (h : aggT P t = some b) (w : World) : (isAgg t).run P w = .ok b w := by
  simp only [aggT, Option.map_eq_some_iff] at h
  obtain ⟨d, hd, rfl⟩ := h
  cases d <;> simp [isAgg, run_underlying hd]

theorem cells_eq (v : Value) : v.cells.toList = vcells v := by cases v <;> rfl

theorem ad_add {ρ : Rho} {a a' : Addr} (h : AdRel ρ a a') (n : Nat) : AdRel ρ (a.add n) (a'.add n) := by
  obtain ⟨hs, m, hm, rfl⟩ := h
  have e1 : a.add n = ⟨a.block, a.off + n, none⟩ := by
    unfold Addr.add; split
    · subst_vars; cases a; simp_all
    · rfl
  rw [e1, Addr.add_lit]
  exact ⟨rfl, m, hm, by simp; omega⟩

/-! ### Numbers and the like -/

theorem lenIs_eq : ∀ (l : List Value) (n : Nat), lenIs l n = true → l.length = n
  | [], 0, _ => rfl
  | [], _ + 1, h => by simp [lenIs] at h
  | _ :: _, 0, h => by simp [lenIs] at h
  | _ :: l, n + 1, h => by simp only [lenIs] at h; simp [lenIs_eq l n h]

theorem pureOf_eq {α : Type} {s : Sem α} {a : α} (h : pureOf s = some a) : s = .pure a := by
  cases s <;> simp [pureOf] at h; rw [h]

theorem primEq_rel {ρ : Rho} {k : PK} {x y x' y' : Value} {b : Bool} (hx : VRel ρ x x') (hy : VRel ρ y y') (h : primEq k x y = some b) : x' = x ∧ y' = y := by
  cases hx <;> cases hy <;> first | exact ⟨rfl, rfl⟩ | (cases k <;> simp [primEq] at h; done)

theorem shift_int {op : BinOp} {k k' : IntKind} {a b : Int} {v : Value} (h : Op.shift op k a k' b = .pure v) : ∃ n, v = .int k n := by
  unfold Op.shift at h
  split at h
  · simp [runtimePanic, bind, Sem.bind, program] at h
  · split at h <;> first | (cases h; exact ⟨_, rfl⟩) | (simp [stuck] at h)

theorem arith_int {op : BinOp} {k : IntKind} {a b : Int} {v : Value} (h : Op.intArith op k a b = .pure v) : ∃ n, v = .int k n := by
  unfold Op.intArith at h
  split at h <;> first | (cases h; exact ⟨_, rfl⟩) | (simp [stuck] at h)

theorem div_int {op : BinOp} {k : IntKind} {a b : Int} {v : Value} (h : Op.intDiv op k a b = .pure v) : ∃ n, v = .int k n := by
  unfold Op.intDiv at h
  split at h
  · simp [runtimePanic, bind, Sem.bind, program] at h
  · split at h <;> first | (cases h; exact ⟨_, rfl⟩) | (simp [stuck] at h)

theorem bits_int {op : BinOp} {k : IntKind} {a b : Int} {v : Value} (h : Op.intBits op k a b = .pure v) : ∃ n, v = .int k n := by
  unfold Op.intBits at h
  dsimp only at h
  split at h <;> first | (cases h; exact ⟨_, rfl⟩) | (simp [stuck] at h)

theorem cmp_bool {op : BinOp} {a b : Int} {v : Value} (h : Op.intCmp op a b = .pure v) : ∃ n, v = .bool n := by
  unfold Op.intCmp at h
  split at h <;> first | (cases h; exact ⟨_, rfl⟩) | (simp [stuck] at h)

theorem string_flat {op : BinOp} {a b : ByteArray} {v : Value} (h : Op.stringOp op a b = .pure v) : (∃ n, v = .bool n) ∨ ∃ s, v = .string s := by
  unfold Op.stringOp at h
  dsimp only at h
  split at h
  · split at h
    · simp [unsupported] at h
    · cases h; exact .inr ⟨_, rfl⟩
  all_goals first | (cases h; exact .inl ⟨_, rfl⟩) | (simp [stuck] at h)

theorem unary_flat {op : UnOp} {x v : Value} (h : Op.unary op x = .pure v) (hx : ∀ k n, x ≠ .float k n) (hc : ∀ k n m, x ≠ .complex k n m) : (∃ n, v = .bool n) ∨ ∃ k n, v = .int k n := by
  unfold Op.unary at h
  split at h
  · obtain ⟨n, rfl⟩ := arith_int h; exact .inr ⟨_, _, rfl⟩
  · obtain ⟨n, rfl⟩ := bits_int h; exact .inr ⟨_, _, rfl⟩
  · exact absurd rfl (hx _ _)
  · exact absurd rfl (hc _ _ _)
  · cases h; exact .inl ⟨_, rfl⟩
  · simp [unsupported] at h
  · simp [unsupported] at h
  · simp [stuck] at h

/-! ### Making memory -/

theorem step_new {ρ : Rho} {σ : AW} {w : World} (h : WRel P mts ρ σ w) (cs : List Value) (cs' : Array Value) (el el' : TypeId) (z lo hi : Nat)
    (hle : cs.length ≤ cs'.size) (hl : LRel ρ cs (cs'.toList.take cs.length)) (hf : ∀ j, j < cs'.size → ¬ (lo ≤ j ∧ j < hi)) :
    Step P mts ρ σ w (ρ.with σ.next ⟨w.heap.size, 0, cs.length, cs'.size, z, false⟩) (σ.push (.cells cs el z false))
      { w with heap := w.heap.push (.cells cs' el' (lo, hi)) } := by
  have hn : ρ σ.next = none := h.none_of_le (Nat.le_refl _)
  refine step_push h _ _ _ rfl ⟨rfl, rfl, cs', el', lo, hi, rfl, by simp, rfl, hle, fun j _ hj => hf j (by simpa using hj), ?_⟩
  intro i x hx
  obtain ⟨y, hy, hr⟩ := hl.get hx
  refine ⟨y, ?_, hr.mono (Rho.with_le hn)⟩
  have hi : i < cs.length := (List.getElem?_eq_some_iff.1 hx).1
  rw [List.getElem?_take_of_lt hi] at hy
  simpa using hy

theorem with_ad (ρ : Rho) (b : Nat) (m : BM) (hb : m.base = 0) : AdRel (ρ.with b m) ⟨b, 0, none⟩ ⟨m.c, 0, none⟩ :=
  ⟨rfl, m, Rho.with_same _ _ _, by simp [hb]⟩

theorem step_new' {ρ : Rho} {σ : AW} {w : World} (h : WRel P mts ρ σ w) (cs : List Value) (cs' : Array Value) (el el' : TypeId) (z : Nat) (hl : LRel ρ cs cs'.toList) :
    Step P mts ρ σ w (ρ.with σ.next ⟨w.heap.size, 0, cs.length, cs'.size, z, false⟩) (σ.push (.cells cs el z false))
      { w with heap := w.heap.push (.cells cs' el') } := by
  have hlen : cs.length = cs'.size := by simpa using hl.1
  refine step_new h cs cs' el el' z 0 0 (by omega) ?_ (fun j _ => by omega)
  rw [hlen, List.take_of_length_le (by simp)]; exact hl

theorem sim_alloc {ρ : Rho} {σ : AW} {w : World} (h : WRel P mts ρ σ w) {e : TypeId} {z : Value} (hz : zeroT P e = some z) :
    Sim P mts ρ σ w (do pure (.value (← Instr.alloc e true (.tuple #[])))) (.pointer (some ⟨σ.next, 0, none⟩)) (σ.push (.cells (vcells z) e 0 false)) := by
  have hc : LRel ρ (vcells z) z.cells.toList := (const_rel ρ (zeroT_ok hz)).cells
  refine Sim.value (v' := .pointer (some ⟨w.heap.size, 0, none⟩)) (s := Instr.alloc e true (.tuple #[])) ?_ ?_ (step_new' h _ z.cells e e 0 hc)
  · simp [Instr.alloc, run_zeroT hz, newVar, newRow]
  · exact .ptr _ _ (with_ad _ _ _ rfl)

theorem sim_box {ρ : Rho} {σ : AW} {w : World} (h : WRel P mts ρ σ w) (e : TypeId) {x x' : Value} (hx : VRel ρ x x') :
    Sim P mts ρ σ w (do pure (.value (← Instr.box e x'))) (.pointer (some ⟨σ.next, 0, none⟩)) (σ.push (.cells (vcells x) e 0 false)) := by
  refine Sim.value (v' := .pointer (some ⟨w.heap.size, 0, none⟩)) (s := Instr.box e x') ?_ ?_ (step_new' h _ x'.cells e e 0 hx.cells)
  · simp [Instr.box, newVar, newRow]
  · exact .ptr _ _ (with_ad _ _ _ rfl)

/-! ### Parts -/

theorem splice_rel {ρ : Rho} : ∀ (c : List Value) (o : Nat) (vs c' : List Value), splice c o vs = some c' →
    ∀ (d us : List Value), LRel ρ c d → LRel ρ vs us → ∃ d', splice d o us = some d' ∧ LRel ρ c' d' := by
  intro c
  induction c with
  | nil =>
    intro o vs c' hs d us hc hv
    have hd : d = [] := List.eq_nil_of_length_eq_zero hc.1.symm
    subst hd
    cases o with
    | zero =>
      cases vs with
      | nil =>
        have : us = [] := List.eq_nil_of_length_eq_zero hv.1.symm
        subst this
        simp [splice] at hs; subst hs
        exact ⟨[], rfl, .nil _⟩
      | cons v vs => simp [splice] at hs
    | succ o => simp [splice] at hs
  | cons x c ih =>
    intro o vs c' hs d us hc hv
    obtain ⟨y, d, rfl, hxy, hcd⟩ := hc.uncons
    cases o with
    | zero =>
      cases vs with
      | nil =>
        have : us = [] := List.eq_nil_of_length_eq_zero hv.1.symm
        subst this
        simp [splice] at hs; subst hs
        exact ⟨_, by simp [splice], hc⟩
      | cons v vs =>
        obtain ⟨u, us, rfl, hvu, hvs⟩ := hv.uncons
        simp only [splice, Option.map_eq_some_iff] at hs
        obtain ⟨t, ht, rfl⟩ := hs
        obtain ⟨d', hd', hr⟩ := ih 0 vs t ht d us hcd hvs
        exact ⟨u :: d', by simp [splice, hd'], .cons hvu hr⟩
    | succ o =>
      simp only [splice, Option.map_eq_some_iff] at hs
      obtain ⟨t, ht, rfl⟩ := hs
      obtain ⟨d', hd', hr⟩ := ih o vs t ht d us hcd hv
      exact ⟨y :: d', by simp [splice, hd'], .cons hxy hr⟩

theorem splice_length : ∀ (c : List Value) (o : Nat) (vs c' : List Value), splice c o vs = some c' → c'.length = c.length ∧ o + vs.length ≤ c.length := by
  intro c
  induction c with
  | nil =>
    intro o vs c' hs
    cases o <;> cases vs <;> simp [splice] at hs <;> simp_all
  | cons x c ih =>
    intro o vs c' hs
    cases o with
    | zero =>
      cases vs with
      | nil => simp [splice] at hs; subst hs; simp
      | cons v vs =>
        simp only [splice, Option.map_eq_some_iff] at hs
        obtain ⟨t, ht, rfl⟩ := hs
        obtain ⟨h1, h2⟩ := ih 0 vs t ht
        simp; omega
    | succ o =>
      simp only [splice, Option.map_eq_some_iff] at hs
      obtain ⟨t, ht, rfl⟩ := hs
      obtain ⟨h1, h2⟩ := ih o vs t ht
      simp; omega

theorem fold_splice (off : Nat) : ∀ (vs : List Value) (k : Nat) (arr : Array Value) (c' : List Value), splice arr.toList (off + k) vs = some c' →
    ((vs.zipIdx k).foldl (fun cs (p : Value × Nat) => cs.setIfInBounds (off + p.2) p.1) arr).toList = c' := by
  intro vs
  induction vs with
  | nil => intro k arr c' h; have := splice_nil _ _ _ h; simp [this]
  | cons v vs ih =>
    intro k arr c' h
    obtain ⟨h1, h2⟩ := splice_cons _ _ _ _ _ h
    simp only [List.zipIdx_cons, List.foldl_cons]
    refine ih (k + 1) _ c' ?_
    rw [Array.toList_setIfInBounds]
    rw [show off + (k + 1) = off + k + 1 by omega]; exact h2

theorem fill_rel {ρ : Rho} {ev ev' : Operand → Value} (place : Nat → Option (Nat × Nat)) : ∀ (parts : List (Nat × Operand)) (ps : List (Nat × Nat × Operand)),
    partsOf place parts = some ps → (∀ p ∈ parts, VRel ρ (ev p.2) (ev' p.2)) →
    ∀ (cs c' : List Value) (d : Array Value), LRel ρ cs d.toList → aFill ev cs ps = some c' →
      ∃ d', Instr.fill place d (parts.map fun (i, x) => (i, ev' x)) = some d' ∧ LRel ρ c' d'.toList := by
  intro parts
  induction parts with
  | nil =>
    intro ps hp _ cs c' d hl hf
    simp [partsOf] at hp; subst hp
    simp [aFill] at hf; subst hf
    exact ⟨d, rfl, hl⟩
  | cons p parts ih =>
    intro ps hp hev cs c' d hl hf
    obtain ⟨i, x⟩ := p
    simp only [partsOf] at hp
    split at hp
    · rename_i o s rest hpl hrest
      cases hok : opdOk x with
      | false => simp [hok] at hp
      | true =>
        simp [hok] at hp; subst hp
        simp only [aFill] at hf
        cases hlen : lenIs (vcells (ev x)) s with
        | false => simp [hlen] at hf
        | true =>
          simp only [hlen, cond_true] at hf
          split at hf
          · rename_i cs1 hs1
            have hx := hev (i, x) (by simp)
            obtain ⟨d1, hd1, hr1⟩ := splice_rel _ _ _ _ hs1 _ _ hl hx.cells
            have hsz : (ev' x).cells.size = s := by
              have h1 := hx.cells.1
              have h2 := lenIs_eq _ _ hlen
              simp at h1; omega
            have hfit := (splice_length _ _ _ _ hd1).2
            simp only [Array.length_toList] at hfit
            have hfold := fold_splice o (ev' x).cells.toList 0 d d1 (by simpa using hd1)
            have hcond : ((ev' x).cells.size ≠ s || o + (ev' x).cells.size > d.size) = false := by
              simp [hsz]; omega
            obtain ⟨d', hd', hr'⟩ := ih rest hrest (fun p hp => hev p (by simp [hp])) cs1 c'
              ((ev' x).cells.zipIdx.foldl (fun cs (c, j) => cs.setIfInBounds (o + j) c) d) (by
                rw [← Array.foldl_toList, Array.toList_zipIdx, hfold]; exact hr1) hf
            refine ⟨d', ?_, hr'⟩
            simp only [List.map_cons, Instr.fill, hpl]
            rw [if_neg (by rw [hcond]; simp)]
            exact hd'
          · cases hf
    · cases hp

end
end Go.AM
