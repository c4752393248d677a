/- The abstract machine runs alike wherever its blocks stand: a renaming of blocks. -/
import Derived.Test.YtcclefkkjboaeaaGreatDoorAComp

namespace Go.AM
open Go

/-! ## Renaming -/

def renAd (r : Nat → Nat) (a : Addr) : Addr := ⟨r a.block, a.off, a.spot⟩

def renFn (r : Nat → Nat) : Fn → Fn
  | .yield l => .yield (r l)
  | f => f

mutual
def ren (r : Nat → Nat) : Value → Value
  | .bool b => .bool b
  | .int k n => .int k n
  | .float k b => .float k b
  | .complex k a b => .complex k a b
  | .string s => .string s
  | .pointer a => .pointer (a.map (renAd r))
  | .slice a n c => .slice (a.map (renAd r)) n c
  | .map m => .map (m.map r)
  | .chan c => .chan c
  | .func f a b => .func (renFn r f) (renA r a) (renA r b)
  | .nilFunc => .nilFunc
  | .iface t v => .iface t (ren r v)
  | .nilIface => .nilIface
  | .agg a => .agg (renA r a)
  | .tuple a => .tuple (renA r a)
termination_by structural x => x
def renA (r : Nat → Nat) : Array Value → Array Value
  | ⟨l⟩ => ⟨renL r l⟩
termination_by structural x => x
def renL (r : Nat → Nat) : List Value → List Value
  | [] => []
  | x :: xs => ren r x :: renL r xs
termination_by structural x => x
end

theorem renL_eq (r : Nat → Nat) : ∀ l, renL r l = l.map (ren r)
  | [] => rfl
  | x :: xs => by simp [renL, renL_eq r xs]

theorem renA_toList (r : Nat → Nat) (a : Array Value) : (renA r a).toList = a.toList.map (ren r) := by
  cases a; simp [renA, renL_eq]

theorem renA_mk (r : Nat → Nat) (l : List Value) : renA r ⟨l⟩ = ⟨l.map (ren r)⟩ := by simp [renA, renL_eq]

def renT (r : Nat → Nat) : T Value → T Value
  | .leaf => .leaf
  | .node v a b => .node (v.map (ren r)) (renT r a) (renT r b)

theorem renT_val (r : Nat → Nat) (t : T Value) : (renT r t).val = t.val.map (ren r) := by cases t <;> rfl
theorem renT_left (r : Nat → Nat) (t : T Value) : (renT r t).left = renT r t.left := by cases t <;> rfl
theorem renT_right (r : Nat → Nat) (t : T Value) : (renT r t).right = renT r t.right := by cases t <;> rfl

theorem renT_get (r : Nat → Nat) : ∀ (t : T Value) (n : Nat), (renT r t).get n = (t.get n).map (ren r)
  | .leaf, n => by simp [renT, T.get]
  | .node v a b, 0 => by simp [renT, T.get]
  | .node v a b, m + 1 => by
    simp only [renT, T.get]
    cases Nat.beq (m % 2) 0 <;> simp [renT_get]

theorem renT_setF (r : Nat → Nat) : ∀ (f : Nat) (t : T Value) (n : Nat) (x : Option Value), renT r (T.setF f t n x) = T.setF f (renT r t) n (x.map (ren r))
  | 0, t, n, x => rfl
  | f + 1, t, 0, x => by simp [T.setF, renT, renT_left, renT_right]
  | f + 1, t, m + 1, x => by
    simp only [T.setF]
    cases Nat.beq (m % 2) 0 <;> simp [renT, renT_setF, renT_left, renT_right, renT_val]

theorem renT_set (r : Nat → Nat) (t : T Value) (n : Nat) (x : Value) : renT r (t.set n x) = (renT r t).set n (ren r x) := by
  simp [T.set, T.put, renT_setF]

def renE (r : Nat → Nat) (e : MapEntry) : MapEntry := { key := ren r e.key, val := ren r e.val, born := e.born }

def renO (r : Nat → Nat) : AObj → AObj
  | .cells c e z ro => .cells (c.map (ren r)) e z ro
  | .map es k => .map (es.map (renE r)) k
  | .loop L => .loop { L with tmps := renT r L.tmps }
  | .dead => .dead

@[simp] theorem ren_undef (r : Nat → Nat) : ren r undef = undef := by simp [undef, ren, renA, renL]

theorem vcells_ren (r : Nat → Nat) (v : Value) : vcells (ren r v) = (vcells v).map (ren r) := by
  cases v <;> simp [ren, vcells, renA_toList]

theorem isCell_ren (r : Nat → Nat) (v : Value) : isCell (ren r v) = isCell v := by cases v <;> simp [ren, isCell]

theorem lenIs_map {f : Value → Value} : ∀ (l : List Value) (n : Nat), lenIs (l.map f) n = lenIs l n
  | [], 0 => rfl
  | [], _ + 1 => rfl
  | _ :: _, 0 => rfl
  | _ :: l, n + 1 => by simp [lenIs, lenIs_map l n]

theorem take?_map {f : Value → Value} : ∀ (n : Nat) (l : List Value), take? n (l.map f) = (take? n l).map (·.map f)
  | 0, _ => by simp [take?]
  | n + 1, [] => by simp [take?]
  | n + 1, x :: l => by
    simp only [take?, List.map_cons, take?_map n l, Option.map_map]
    congr 1

theorem splice_map {f : Value → Value} : ∀ (c : List Value) (o : Nat) (vs : List Value), splice (c.map f) o (vs.map f) = (splice c o vs).map (·.map f)
  | [], 0, [] => by simp [splice]
  | [], 0, _ :: _ => by simp [splice]
  | [], _ + 1, _ => by simp [splice]
  | x :: c, 0, [] => by simp [splice]
  | x :: c, 0, v :: vs => by
    simp only [splice, List.map_cons, splice_map c 0 vs, Option.map_map]
    congr 1
  | x :: c, o + 1, vs => by
    simp only [splice, List.map_cons, splice_map c o vs, Option.map_map]
    congr 1

theorem scalar_ren (r : Nat → Nat) {v : Value} (h : scalarOk v = true) : ren r v = v := by
  unfold scalarOk at h
  split at h <;> first | rfl | (simp [ren]; done) | cases h

theorem scalars_ren (r : Nat → Nat) : ∀ {l : List Value}, l.all scalarOk = true → l.map (ren r) = l
  | [], _ => rfl
  | x :: l, h => by
    simp only [List.all_cons, Bool.and_eq_true] at h
    rw [List.map_cons, scalar_ren r h.1, scalars_ren r h.2]

theorem const_ren (r : Nat → Nat) {v : Value} (h : constOk v = true) : ren r v = v := by
  unfold constOk at h
  split at h
  · rename_i cs; cases cs; simp only [ren, renA_mk]; rw [scalars_ren r h]
  · rename_i cs; cases cs; simp only [ren, renA_mk]; rw [scalars_ren r h]
  · exact scalar_ren r h

/-! ## Memory -/

structure Emb (r : Nat → Nat) (σ τ : AW) : Prop where
  fresh : ∀ b, σ.next ≤ b → σ.heap.get b = none
  next : ∀ k, r (σ.next + k) = τ.next + k
  get : ∀ b o, σ.heap.get b = some o → τ.heap.get (r b) = some (renO r o)
  inj : ∀ b b' o o', σ.heap.get b = some o → σ.heap.get b' = some o' → r b = r b' → b = b'
  lt : ∀ b o, σ.heap.get b = some o → r b < τ.next

/-- What stays where the one memory's blocks are not. -/
structure Fr (r : Nat → Nat) (σ τ σ' τ' : AW) : Prop where
  emb : Emb r σ' τ'
  le : σ.next ≤ σ'.next
  le' : τ.next ≤ τ'.next
  dom : ∀ b, b < σ.next → σ.heap.get b = none → σ'.heap.get b = none
  same : ∀ c, c < τ.next → (∀ b o, σ.heap.get b = some o → r b ≠ c) → τ'.heap.get c = τ.heap.get c

section
variable {r : Nat → Nat}

theorem Fr.refl {σ τ : AW} (h : Emb r σ τ) : Fr r σ τ σ τ := ⟨h, Nat.le_refl _, Nat.le_refl _, fun _ _ h => h, fun _ _ _ => rfl⟩

theorem Fr.trans {σ τ σ₁ τ₁ σ₂ τ₂ : AW} (h0 : Emb r σ τ) (h : Fr r σ τ σ₁ τ₁) (h' : Fr r σ₁ τ₁ σ₂ τ₂) : Fr r σ τ σ₂ τ₂ where
  emb := h'.emb
  le := Nat.le_trans h.le h'.le
  le' := Nat.le_trans h.le' h'.le'
  dom := fun b hb hn => h'.dom b (Nat.lt_of_lt_of_le hb h.le) (h.dom b hb hn)
  same := fun c hc hn => by
    rw [h'.same c (Nat.lt_of_lt_of_le hc h.le') ?_, h.same c hc hn]
    intro b o hb e
    by_cases hlt : b < σ.next
    · cases ho : σ.heap.get b with
      | none => rw [h.dom b hlt ho] at hb; cases hb
      | some o' => exact hn b o' ho e
    · have := h0.next (b - σ.next)
      rw [show σ.next + (b - σ.next) = b by omega] at this
      omega

theorem Emb.push {σ τ : AW} (h : Emb r σ τ) (o : AObj) : Fr r σ τ (σ.push o) (τ.push (renO r o)) := by
  have h0 : r σ.next = τ.next := by simpa using h.next 0
  refine ⟨⟨fun b hb => ?_, fun k => ?_, fun b o' hb => ?_, fun b b' o1 o2 hb hb' e => ?_, fun b o' hb => ?_⟩, Nat.le_succ _, Nat.le_succ _, fun b hb hn => ?_, fun c hc hn => ?_⟩
  · simp only [AW.push] at hb ⊢
    rw [T.get_set, if_neg (by omega)]; exact h.fresh b (by omega)
  · simp only [AW.push]
    have := h.next (k + 1)
    rw [show σ.next + 1 + k = σ.next + (k + 1) by omega, this]; omega
  · simp only [AW.push, T.get_set] at hb ⊢
    split at hb
    · rename_i e; subst e; cases hb; simp [h0]
    · have := h.lt b o' hb
      rw [if_neg (by omega)]; exact h.get b o' hb
  · simp only [AW.push, T.get_set] at hb hb'
    split at hb <;> split at hb'
    · omega
    · rename_i e1 e2; have := h.lt b' o2 hb'; subst e1; omega
    · rename_i e1 e2; have := h.lt b o1 hb; subst e2; omega
    · exact h.inj b b' o1 o2 hb hb' e
  · simp only [AW.push, T.get_set] at hb ⊢
    split at hb
    · rename_i e; subst e; omega
    · have := h.lt b o' hb; omega
  · simp only [AW.push, T.get_set]
    rw [if_neg (by omega)]; exact hn
  · simp only [AW.push, T.get_set]
    rw [if_neg (by omega)]

theorem Emb.upd {σ τ : AW} (h : Emb r σ τ) {b : Nat} {o0 : AObj} (hb : σ.heap.get b = some o0) (o : AObj) : Fr r σ τ (σ.upd b o) (τ.upd (r b) (renO r o)) := by
  have hbn : b < σ.next := by
    by_cases hlt : b < σ.next
    · exact hlt
    · rw [h.fresh b (by omega)] at hb; cases hb
  refine ⟨⟨fun c hc => ?_, h.next, fun c o' hc => ?_, fun c c' o1 o2 hc hc' e => ?_, fun c o' hc => ?_⟩, Nat.le_refl _, Nat.le_refl _, fun c hc hn => ?_, fun c hc hn => ?_⟩
  · simp only [AW.upd] at hc ⊢
    rw [T.get_set, if_neg (by omega)]; exact h.fresh c hc
  · simp only [AW.upd, T.get_set] at hc ⊢
    split at hc
    · rename_i e; subst e; cases hc; simp
    · rename_i e
      rw [if_neg (fun e' => e (h.inj c b o' o0 hc hb e'))]; exact h.get c o' hc
  · simp only [AW.upd, T.get_set] at hc hc'
    split at hc <;> split at hc'
    · omega
    · rename_i e1 e2; subst e1; exact h.inj _ _ _ _ hb hc' e
    · rename_i e1 e2; subst e2; exact h.inj _ _ _ _ hc hb e
    · exact h.inj c c' o1 o2 hc hc' e
  · simp only [AW.upd, T.get_set] at hc ⊢
    split at hc
    · rename_i e; subst e; exact h.lt c o0 hb
    · exact h.lt c o' hc
  · simp only [AW.upd, T.get_set]
    split
    · rename_i e; subst e; rw [hb] at hn; cases hn
    · exact hn
  · simp only [AW.upd, T.get_set]
    rw [if_neg (fun e => hn b o0 hb e.symm)]

theorem Emb.loadN {σ τ : AW} (h : Emb r σ τ) {a : Addr} {n : Nat} {cs : List Value} (hl : σ.loadN a n = some cs) : τ.loadN (renAd r a) n = some (cs.map (ren r)) := by
  simp only [AW.loadN] at hl ⊢
  split at hl
  · rename_i c e z ro hs hg
    simp only [renAd, hs, h.get _ _ hg, renO]
    rw [← List.map_drop, take?_map, hl]; rfl
  · cases hl

theorem all_isCell_ren (vs : List Value) : (vs.map (ren r)).all isCell = vs.all isCell := by
  induction vs with
  | nil => rfl
  | cons x l ih => simp [isCell_ren, ih]

theorem Emb.storeN {σ τ σ' : AW} (h : Emb r σ τ) {a : Addr} {vs : List Value} (hl : σ.storeN a vs = some σ') : ∃ τ', τ.storeN (renAd r a) (vs.map (ren r)) = some τ' ∧ Fr r σ τ σ' τ' := by
  simp only [AW.storeN] at hl ⊢
  split at hl
  · rename_i c e z hs hg
    cases hall : vs.all isCell
    · rw [hall] at hl; cases hl
    · rw [hall] at hl
      simp only [cond_true, Option.map_eq_some_iff] at hl
      obtain ⟨c', hc', rfl⟩ := hl
      refine ⟨_, ?_, h.upd hg (.cells c' e z false)⟩
      simp only [renAd, hs, h.get _ _ hg, renO, all_isCell_ren, hall, cond_true, splice_map, hc', Option.map_some]
  · cases hl

/-! ## Operations without memory -/

theorem primEq_ren {pk : PK} {x y : Value} {b : Bool} (h : primEq pk x y = some b) : primEq pk (ren r x) (ren r y) = some b := by
  unfold primEq at h
  split at h <;> first | (simp only [ren, primEq] at h ⊢; exact h) | cases h

theorem lenAre_ren : ∀ {ks : List PK} {xs ys : List Value}, cellsEq.lenAre ks (xs.map (ren r)) (ys.map (ren r)) = cellsEq.lenAre ks xs ys
  | [], [], [] => rfl
  | [], [], _ :: _ => rfl
  | [], _ :: _, _ => rfl
  | _ :: _, [], _ => rfl
  | _ :: _, _ :: _, [] => rfl
  | _ :: ks, _ :: xs, _ :: ys => by simp [cellsEq.lenAre, lenAre_ren]

theorem cellsEq_ren : ∀ {ks : List PK} {xs ys : List Value} {b : Bool}, cellsEq ks xs ys = some b → cellsEq ks (xs.map (ren r)) (ys.map (ren r)) = some b
  | [], [], [], b, h => by simpa [cellsEq] using h
  | [], [], _ :: _, b, h => by simp [cellsEq] at h
  | [], _ :: _, _, b, h => by simp [cellsEq] at h
  | _ :: _, [], _, b, h => by simp [cellsEq] at h
  | _ :: _, _ :: _, [], b, h => by simp [cellsEq] at h
  | k :: ks, x :: xs, y :: ys, b, h => by
    simp only [cellsEq, List.map_cons] at h ⊢
    cases hp : primEq k x y with
    | none => rw [hp] at h; cases h
    | some c =>
      rw [hp] at h; rw [primEq_ren hp]
      cases c
      · simp only [lenAre_ren] at h ⊢; exact h
      · simp only [lenAre_ren] at h ⊢
        cases hl : cellsEq.lenAre ks xs ys
        · rw [hl] at h; cases h
        · rw [hl] at h; simp only [cond_true] at h ⊢; exact cellsEq_ren h

theorem aEq_ren {eq : EqT} {cx : Bool} {x y : Value} {b : Bool} (h : aEq eq cx x y = some b) : aEq eq cx (ren r x) (ren r y) = some b := by
  cases eq with
  | prim k => exact primEq_ren h
  | ptr =>
    simp only [aEq] at h
    split at h <;> first | (simp [ren, aEq] at h ⊢; exact h) | (simp [ren, aEq] at h ⊢; done) | cases h
  | slice =>
    simp only [aEq] at h
    split at h <;> first | (simp [ren, aEq] at h ⊢; exact h) | (simp [ren, aEq] at h ⊢; done) | cases h
  | iface =>
    simp only [aEq] at h
    split at h <;> first | (simp [ren, aEq] at h ⊢; exact h) | (simp [ren, aEq] at h ⊢; done) | cases h
  | agg ks =>
    simp only [aEq] at h
    split at h
    · simp only [ren, aEq, renA_toList]; exact cellsEq_ren h
    · cases h

theorem aCmp_ren {op : BinOp} {b b' : Option Bool} {v : Value} (h : aCmp op b = some v) (hb : ∀ c, b = some c → b' = some c) : aCmp op b' = some v ∧ ren r v = v := by
  unfold aCmp at h
  split at h
  · rw [hb _ rfl]; cases h; exact ⟨rfl, rfl⟩
  · rw [hb _ rfl]; cases h; exact ⟨rfl, rfl⟩
  · cases h

def isIntV : Value → Bool
  | .int _ _ => true
  | _ => false

theorem pureOf_scalar {x : Sem Value} {v : Value} (h : pureOf x = some v) : x = .pure v := by
  cases x <;> simp [pureOf] at h ⊢; exact h

end
end Go.AM
