/- How the abstract machine's memory stands in the model's memory. -/
import Derived.Test.YtcclefkkjboaeaaGreatDoorAComp

namespace Go.AM
open Go

structure BM where
  c : Nat
  base : Nat
  size : Nat
  reach : Nat
  esz : Nat
  ro : Bool

abbrev Rho := Nat → Option BM

def AdRel (ρ : Rho) (a a' : Addr) : Prop := a.spot = none ∧ ∃ m, ρ a.block = some m ∧ a' = ⟨m.c, m.base + a.off, none⟩

def CapRel (ρ : Rho) (a : Addr) (c c' : Nat) : Prop :=
  c' = c ∨ (c ≤ c' ∧ ∃ m, ρ a.block = some m ∧ 0 < m.esz ∧ a.off + c * m.esz = m.size ∧ a.off + c' * m.esz ≤ m.reach)

inductive VRel (ρ : Rho) : Value → Value → Prop where
  | bool (b : Bool) : VRel ρ (.bool b) (.bool b)
  | int (k : IntKind) (n : Int) : VRel ρ (.int k n) (.int k n)
  | string (s : ByteArray) : VRel ρ (.string s) (.string s)
  | ptrNil : VRel ρ (.pointer none) (.pointer none)
  | ptr (a a' : Addr) : AdRel ρ a a' → VRel ρ (.pointer (some a)) (.pointer (some a'))
  | sliceNil : VRel ρ (.slice none 0 0) (.slice none 0 0)
  | slice (a a' : Addr) (n c c' : Nat) : AdRel ρ a a' → n ≤ c → CapRel ρ a c c' → VRel ρ (.slice (some a) n c) (.slice (some a') n c')
  | slice0 (a a' : Addr) (m : BM) : ρ a.block = some m → VRel ρ (.slice (some a) 0 0) (.slice (some a') 0 0)
  | mapNil : VRel ρ (.map none) (.map none)
  | map (r : Nat) (m : BM) : ρ r = some m → VRel ρ (.map (some r)) (.map (some m.c))
  | func (f : FuncId) (a b a' b' : Array Value) : a.size = a'.size → (∀ (i : Nat) (x y : Value), a[i]? = some x → a'[i]? = some y → VRel ρ x y) →
      b.size = b'.size → (∀ (i : Nat) (x y : Value), b[i]? = some x → b'[i]? = some y → VRel ρ x y) → VRel ρ (.func (.func f) a b) (.func (.func f) a' b')
  | yield (l : Nat) (m : BM) : ρ l = some m → VRel ρ (.func (.yield l) #[] #[]) (.func (.yield m.c) #[] #[])
  | nilFunc : VRel ρ .nilFunc .nilFunc
  | iface (t : TypeId) (x y : Value) : VRel ρ x y → VRel ρ (.iface t x) (.iface t y)
  | nilIface : VRel ρ .nilIface .nilIface
  | agg (a a' : Array Value) : a.size = a'.size → (∀ (i : Nat) (x y : Value), a[i]? = some x → a'[i]? = some y → VRel ρ x y) → VRel ρ (.agg a) (.agg a')
  | tuple (a a' : Array Value) : a.size = a'.size → (∀ (i : Nat) (x y : Value), a[i]? = some x → a'[i]? = some y → VRel ρ x y) → VRel ρ (.tuple a) (.tuple a')

def LRel (ρ : Rho) (l l' : List Value) : Prop := l.length = l'.length ∧ ∀ (i : Nat) (x y : Value), l[i]? = some x → l'[i]? = some y → VRel ρ x y

def Rho.le (ρ ρ' : Rho) : Prop := ∀ b m, ρ b = some m → ρ' b = some m

theorem Rho.le.refl (ρ : Rho) : ρ.le ρ := fun _ _ h => h
theorem Rho.le.trans {ρ ρ' ρ'' : Rho} (h : ρ.le ρ') (h' : ρ'.le ρ'') : ρ.le ρ'' := fun b m e => h' b m (h b m e)

theorem AdRel.mono {ρ ρ' : Rho} (h : ρ.le ρ') {a a' : Addr} (r : AdRel ρ a a') : AdRel ρ' a a' :=
  ⟨r.1, let ⟨m, e, e'⟩ := r.2; ⟨m, h _ _ e, e'⟩⟩

theorem CapRel.mono {ρ ρ' : Rho} (h : ρ.le ρ') {a : Addr} {c c' : Nat} (r : CapRel ρ a c c') : CapRel ρ' a c c' := by
  rcases r with r | ⟨r0, m, e, r⟩
  · exact .inl r
  · exact .inr ⟨r0, m, h _ _ e, r⟩

theorem VRel.mono {ρ ρ' : Rho} (h : ρ.le ρ') {x y : Value} (r : VRel ρ x y) : VRel ρ' x y := by
  induction r with
  | bool b => exact .bool b
  | int k n => exact .int k n
  | string s => exact .string s
  | ptrNil => exact .ptrNil
  | ptr a a' e => exact .ptr a a' (e.mono h)
  | sliceNil => exact .sliceNil
  | slice a a' n c c' e hn hc => exact .slice a a' n c c' (e.mono h) hn (hc.mono h)
  | slice0 a a' m e => exact .slice0 a a' m (h _ _ e)
  | mapNil => exact .mapNil
  | map r m e => exact .map r m (h _ _ e)
  | func f a b a' b' ha _ hb _ iha ihb => exact .func f a b a' b' ha iha hb ihb
  | yield l m e => exact .yield l m (h _ _ e)
  | nilFunc => exact .nilFunc
  | iface t x y _ ih => exact .iface t x y ih
  | nilIface => exact .nilIface
  | agg a a' hs _ ih => exact .agg a a' hs ih
  | tuple a a' hs _ ih => exact .tuple a a' hs ih

theorem LRel.mono {ρ ρ' : Rho} (h : ρ.le ρ') {l l' : List Value} (r : LRel ρ l l') : LRel ρ' l l' :=
  ⟨r.1, fun i x y hx hy => (r.2 i x y hx hy).mono h⟩

theorem LRel.nil (ρ : Rho) : LRel ρ [] [] := ⟨rfl, fun i x y h => by simp at h⟩

theorem LRel.cons {ρ : Rho} {x y : Value} {l l' : List Value} (hx : VRel ρ x y) (h : LRel ρ l l') : LRel ρ (x :: l) (y :: l') :=
  ⟨by simp [h.1], fun i a b ha hb => by
    cases i with
    | zero => simp at ha hb; subst ha hb; exact hx
    | succ i => simp at ha hb; exact h.2 i a b ha hb⟩

theorem LRel.uncons {ρ : Rho} {x : Value} {l l' : List Value} (h : LRel ρ (x :: l) l') : ∃ y m, l' = y :: m ∧ VRel ρ x y ∧ LRel ρ l m := by
  cases l' with
  | nil => exact absurd h.1 (by simp)
  | cons y m => exact ⟨y, m, rfl, h.2 0 x y rfl rfl, by simpa using h.1, fun i a b ha hb => h.2 (i + 1) a b (by simpa using ha) (by simpa using hb)⟩

theorem LRel.get {ρ : Rho} {l l' : List Value} (h : LRel ρ l l') {i : Nat} {x : Value} (hx : l[i]? = some x) : ∃ y, l'[i]? = some y ∧ VRel ρ x y := by
  have hi : i < l'.length := by
    have := (List.getElem?_eq_some_iff.1 hx).1
    rw [← h.1]; exact this
  exact ⟨l'[i], by simp [hi], h.2 i x _ hx (by simp [hi])⟩

theorem LRel.append {ρ : Rho} {l l' m m' : List Value} (h : LRel ρ l l') (h' : LRel ρ m m') : LRel ρ (l ++ m) (l' ++ m') := by
  induction l generalizing l' with
  | nil =>
    have : l' = [] := List.eq_nil_of_length_eq_zero h.1.symm
    subst this; simpa using h'
  | cons x l ih =>
    obtain ⟨y, t, rfl, hx, ht⟩ := h.uncons
    exact .cons hx (ih ht)

theorem LRel.of_arrays {ρ : Rho} {a a' : Array Value} (hs : a.size = a'.size) (h : ∀ (i : Nat) (x y : Value), a[i]? = some x → a'[i]? = some y → VRel ρ x y) : LRel ρ a.toList a'.toList :=
  ⟨by simpa using hs, fun i x y hx hy => h i x y (by simpa using hx) (by simpa using hy)⟩

theorem LRel.agg {ρ : Rho} {l : List Value} {a' : Array Value} (h : LRel ρ l a'.toList) : VRel ρ (.agg ⟨l⟩) (.agg a') :=
  .agg _ _ (by simpa using h.1) fun i x y hx hy => h.2 i x y (by simpa using hx) (by simpa using hy)

theorem LRel.tuple {ρ : Rho} {l : List Value} {a' : Array Value} (h : LRel ρ l a'.toList) : VRel ρ (.tuple ⟨l⟩) (.tuple a') :=
  .tuple _ _ (by simpa using h.1) fun i x y hx hy => h.2 i x y (by simpa using hx) (by simpa using hy)

theorem VRel.cells {ρ : Rho} {x y : Value} (h : VRel ρ x y) : LRel ρ (vcells x) y.cells.toList := by
  have h0 := h
  cases h with
  | agg a a' hs h => exact .of_arrays hs h
  | _ => exact .cons h0 (.nil _)

theorem undef_rel (ρ : Rho) : VRel ρ undef undef := .tuple _ _ rfl fun i x y h => by simp at h

theorem isCell_rel {ρ : Rho} {x y : Value} (h : VRel ρ x y) : isCell x = isCell y := by
  cases h <;> rfl

/-! ## Objects and worlds -/

section
variable (P : Program) (mts : List TypeId)

def CellsRel (ρ : Rho) (m : BM) (cs : List Value) (o : Option Obj) : Prop :=
  ∃ arr el lo hi, o = some (.cells arr el (lo, hi)) ∧ m.base + m.reach ≤ arr.size ∧ m.size = cs.length ∧ m.size ≤ m.reach ∧
    (∀ j, m.base ≤ j → j < m.base + m.reach → ¬ (lo ≤ j ∧ j < hi)) ∧ ∀ (i : Nat) (x : Value), cs[i]? = some x → ∃ y, arr[m.base + i]? = some y ∧ VRel ρ x y

def ERel (ρ : Rho) (es es' : List MapEntry) : Prop :=
  es.length = es'.length ∧ ∀ (i : Nat) (e e' : MapEntry), es[i]? = some e → es'[i]? = some e' → VRel ρ e.key e'.key ∧ VRel ρ e.val e'.val ∧ e.born = e'.born

def PendRel (nt : Nat) : Option ACode → Option Code → Prop
  | none, none => True
  | some j, some c => compCode P mts nt c = some j
  | _, _ => False

def TRel (ρ : Rho) (tm : T Value) (tmps : Array Value) : Prop :=
  ∀ t, VRel ρ ((tm.get t).getD undef) (tmps.getD t undef)

structure LoopRel (ρ : Rho) (L : ALoop) (l : Loop) : Prop where
  state : L.state = l.state
  pend : PendRel P mts l.tmps.size L.pending l.pending
  tmps : TRel ρ L.tmps l.tmps
  params : L.params = l.params.toList
  below : ∀ p ∈ L.params, p < l.tmps.size
  assign : compCode P mts l.tmps.size l.assign = some L.assign
  body : compCode P mts l.tmps.size l.body = some L.body

def ObjRel (ρ : Rho) (m : BM) (o : Option Obj) : AObj → Prop
  | .cells cs _ esz ro => m.esz = esz ∧ m.ro = ro ∧ CellsRel ρ m cs o
  | .map es clock => m.base = 0 ∧ m.reach = 1 ∧ m.ro = false ∧ ∃ es', o = some (.map es' clock) ∧ ERel ρ es es'.toList
  | .loop L => m.base = 0 ∧ m.reach = 1 ∧ m.ro = false ∧ ∃ l, o = some (.loop l) ∧ LoopRel P mts ρ L l
  | .dead => m.ro = false

def Dead (σ : AW) (b : Nat) : Prop := σ.heap.get b = some .dead

def Apart (m m' : BM) : Prop := m.base + m.reach ≤ m'.base ∨ m'.base + m'.reach ≤ m.base

structure WRel (ρ : Rho) (σ : AW) (w : World) : Prop where
  dom : ∀ b m, ρ b = some m → b < σ.next ∧ m.c < w.heap.size
  obj : ∀ b m ao, ρ b = some m → σ.heap.get b = some ao → ObjRel P mts ρ m w.heap[m.c]? ao
  disj : ∀ b b' m m', ρ b = some m → ρ b' = some m' → b ≠ b' → m.c = m'.c →
    (m.ro = true ∧ m'.ro = true) ∨ Dead σ b ∨ Dead σ b' ∨ (m.ro = false ∧ m'.ro = false ∧ Apart m m')
  fresh : ∀ b, σ.next ≤ b → σ.heap.get b = none

def Owned (ρ : Rho) (c : Nat) : Prop := ∃ b m, ρ b = some m ∧ m.c = c ∧ m.ro = false

structure Step (ρ : Rho) (σ : AW) (w : World) (ρ' : Rho) (σ' : AW) (w' : World) : Prop where
  rel : WRel P mts ρ' σ' w'
  le : ρ.le ρ'
  new : ∀ b m, ρ b = none → ρ' b = some m → σ.next ≤ b
  own : ∀ b m, ρ b = none → ρ' b = some m → w.heap.size ≤ m.c ∨ Owned ρ m.c
  next : σ.next ≤ σ'.next
  aframe : ∀ b, b < σ.next → ρ b = none → σ'.heap.get b = σ.heap.get b
  size : w.heap.size ≤ w'.heap.size
  cframe : ∀ c, c < w.heap.size → ¬ Owned ρ c → w'.heap[c]? = w.heap[c]?
  tape : w'.tape = w.tape
  os : w'.os = w.os
  out : w'.output = w.output

variable {P mts}

theorem Step.refl {ρ : Rho} {σ : AW} {w : World} (h : WRel P mts ρ σ w) : Step P mts ρ σ w ρ σ w where
  rel := h
  le := .refl _
  new := fun b m h h' => by simp [h] at h'
  own := fun b m h h' => by simp [h] at h'
  next := Nat.le_refl _
  aframe := fun _ _ _ => rfl
  size := Nat.le_refl _
  cframe := fun _ _ _ => rfl
  tape := rfl
  os := rfl
  out := rfl

theorem Step.trans {ρ ρ₁ ρ₂ : Rho} {σ σ₁ σ₂ : AW} {w w₁ w₂ : World} (h : Step P mts ρ σ w ρ₁ σ₁ w₁) (h' : Step P mts ρ₁ σ₁ w₁ ρ₂ σ₂ w₂) :
    Step P mts ρ σ w ρ₂ σ₂ w₂ where
  rel := h'.rel
  le := h.le.trans h'.le
  new := fun b m e e' => by
    cases e1 : ρ₁ b with
    | none => exact Nat.le_trans h.next (h'.new b m e1 e')
    | some m1 => exact h.new b m1 e e1
  own := fun b m e e' => by
    cases e1 : ρ₁ b with
    | none =>
      rcases h'.own b m e1 e' with hs | ⟨b2, m2, e2, hc, hr⟩
      · exact .inl (Nat.le_trans h.size hs)
      · cases e3 : ρ b2 with
        | none =>
          rcases h.own b2 m2 e3 e2 with hs | hs
          · exact .inl (hc ▸ hs)
          · exact .inr (hc ▸ hs)
        | some m3 =>
          have := h.le b2 m3 e3
          rw [e2] at this
          cases this
          exact .inr ⟨b2, m2, e3, hc, hr⟩
    | some m1 =>
      have := h'.le b m1 e1
      rw [e'] at this
      cases this
      exact h.own b m e e1
  next := Nat.le_trans h.next h'.next
  aframe := fun b hb e => by
    rw [h'.aframe b (Nat.lt_of_lt_of_le hb h.next) ?_, h.aframe b hb e]
    cases e1 : ρ₁ b with
    | none => rfl
    | some m1 => exact absurd (h.new b m1 e e1) (by omega)
  size := Nat.le_trans h.size h'.size
  cframe := fun c hc ho => by
    rw [h'.cframe c (Nat.lt_of_lt_of_le hc h.size) ?_, h.cframe c hc ho]
    rintro ⟨b2, m2, e2, hc2, hr⟩
    cases e3 : ρ b2 with
    | none =>
      rcases h.own b2 m2 e3 e2 with hs | hs
      · omega
      · exact ho (hc2 ▸ hs)
    | some m3 =>
      have := h.le b2 m3 e3
      rw [e2] at this
      cases this
      exact ho ⟨b2, m2, e3, hc2, hr⟩
  tape := h'.tape.trans h.tape
  os := h'.os.trans h.os
  out := h'.out.trans h.out

theorem ERel.mono {ρ ρ' : Rho} (h : ρ.le ρ') {es es' : List MapEntry} (r : ERel ρ es es') : ERel ρ' es es' :=
  ⟨r.1, fun i e e' a b => let ⟨x, y, z⟩ := r.2 i e e' a b; ⟨x.mono h, y.mono h, z⟩⟩

theorem TRel.mono {ρ ρ' : Rho} (h : ρ.le ρ') {tm : T Value} {tmps : Array Value} (r : TRel ρ tm tmps) : TRel ρ' tm tmps := fun t => (r t).mono h

theorem LoopRel.mono {ρ ρ' : Rho} (h : ρ.le ρ') {L : ALoop} {l : Loop} (r : LoopRel P mts ρ L l) : LoopRel P mts ρ' L l :=
  { r with tmps := r.tmps.mono h }

theorem CellsRel.mono {ρ ρ' : Rho} (h : ρ.le ρ') {m : BM} {cs : List Value} {o : Option Obj} (r : CellsRel ρ m cs o) : CellsRel ρ' m cs o := by
  obtain ⟨arr, el, lo, hi, e, h1, h2, h3, h4, h5⟩ := r
  exact ⟨arr, el, lo, hi, e, h1, h2, h3, h4, fun i x hx => let ⟨y, hy, hr⟩ := h5 i x hx; ⟨y, hy, hr.mono h⟩⟩

theorem ObjRel.mono {ρ ρ' : Rho} (h : ρ.le ρ') {m : BM} {o : Option Obj} {ao : AObj} (r : ObjRel P mts ρ m o ao) : ObjRel P mts ρ' m o ao := by
  cases ao with
  | cells cs el esz ro => exact ⟨r.1, r.2.1, r.2.2.mono h⟩
  | map es clock => obtain ⟨a, b, c, es', e, r⟩ := r; exact ⟨a, b, c, es', e, r.mono h⟩
  | loop L => obtain ⟨a, b, c, l, e, r⟩ := r; exact ⟨a, b, c, l, e, r.mono h⟩
  | dead => exact r

/-! ## Making a new block -/

def Rho.with (ρ : Rho) (b : Nat) (m : BM) : Rho := fun x => if x = b then some m else ρ x

theorem Rho.with_le {ρ : Rho} {b : Nat} {m : BM} (h : ρ b = none) : ρ.le (ρ.with b m) := by
  intro x n e
  unfold Rho.with
  by_cases hx : x = b
  · subst hx; rw [h] at e; cases e
  · simp [hx, e]

theorem Rho.with_same (ρ : Rho) (b : Nat) (m : BM) : ρ.with b m b = some m := by simp [Rho.with]

theorem WRel.none_of_le {ρ : Rho} {σ : AW} {w : World} (h : WRel P mts ρ σ w) {b : Nat} (hb : σ.next ≤ b) : ρ b = none := by
  cases e : ρ b with
  | none => rfl
  | some m => exact absurd (h.dom b m e).1 (by omega)

theorem push_get (σ : AW) (o : AObj) (b : Nat) : (σ.push o).heap.get b = if b = σ.next then some o else σ.heap.get b := by
  simp [AW.push, T.get_set]

/-- A new block on either side. -/
theorem step_push {ρ : Rho} {σ : AW} {w : World} (h : WRel P mts ρ σ w) (ao : AObj) (o : Obj) (m : BM) (hc : m.c = w.heap.size)
    (hrel : ObjRel P mts (ρ.with σ.next m) m (some o) ao) :
    Step P mts ρ σ w (ρ.with σ.next m) (σ.push ao) { w with heap := w.heap.push o } := by
  have hnone : ρ σ.next = none := h.none_of_le (Nat.le_refl _)
  have hle := Rho.with_le (m := m) hnone
  refine { rel := ?_, le := hle, new := ?_, own := ?_, next := by simp [AW.push], aframe := ?_, size := by simp, cframe := ?_, tape := rfl, os := rfl, out := rfl }
  · refine { dom := ?_, obj := ?_, disj := ?_, fresh := ?_ }
    · intro b n e
      by_cases hb : b = σ.next
      · subst hb; simp [Rho.with] at e; subst e; simp [AW.push, hc]
      · simp [Rho.with, hb] at e
        have := h.dom b n e
        simp [AW.push]; omega
    · intro b n ao' e e'
      rw [push_get] at e'
      by_cases hb : b = σ.next
      · subst hb; simp [Rho.with] at e; subst e; simp at e'; subst e'
        simpa [hc] using hrel
      · simp [Rho.with, hb] at e
        simp [hb] at e'
        have hd := h.dom b n e
        have := (h.obj b n ao' e e').mono hle
        rwa [Array.getElem?_push_lt hd.2, ← Array.getElem?_eq_getElem hd.2]
    · intro b b' n n' e e' hbb hcc
      by_cases hb : b = σ.next
      · subst hb; simp [Rho.with] at e; subst e
        by_cases hb' : b' = σ.next
        · exact absurd hb'.symm hbb
        · simp [Rho.with, hb'] at e'
          have := h.dom b' n' e'
          omega
      · simp [Rho.with, hb] at e
        by_cases hb' : b' = σ.next
        · subst hb'; simp [Rho.with] at e'; subst e'
          have := h.dom b n e
          omega
        · simp [Rho.with, hb'] at e'
          rcases h.disj b b' n n' e e' hbb hcc with x | x | x | x
          · exact .inl x
          · refine .inr (.inl ?_); unfold Dead at *; rw [push_get]; simp [hb, x]
          · refine .inr (.inr (.inl ?_)); unfold Dead at *; rw [push_get]; simp [hb', x]
          · exact .inr (.inr (.inr x))
    · intro b hb
      rw [push_get]
      simp [AW.push] at hb
      rw [if_neg (by omega)]
      exact h.fresh b (by omega)
  · intro b n e e'
    by_cases hb : b = σ.next
    · omega
    · simp [Rho.with, hb, e] at e'
  · intro b n e e'
    by_cases hb : b = σ.next
    · subst hb; simp [Rho.with] at e'; subst e'; exact .inl (by omega)
    · simp [Rho.with, hb, e] at e'
  · intro b hb e
    rw [push_get, if_neg (by omega)]
  · intro c hc' _
    simp [Array.getElem?_push_lt hc', Array.getElem?_eq_getElem hc']

end
end Go.AM
