/- Values and memories whose addresses lie below a number. -/
import Derived.Test.YtcclefkkjboaeaaGreatDoorARen4

namespace Go.AM
open Go

def WfV (n : Nat) (v : Value) : Prop := ∀ r r' : Nat → Nat, (∀ b, b < n → r b = r' b) → ren r v = ren r' v
def WfL (n : Nat) (l : List Value) : Prop := ∀ v ∈ l, WfV n v

def WfO (n : Nat) : AObj → Prop
  | .cells c _ _ _ => WfL n c
  | .map es _ => ∀ e ∈ es, WfV n e.key ∧ WfV n e.val
  | .loop L => ∀ k v, L.tmps.get k = some v → WfV n v
  | .dead => True

structure WfH (σ : AW) : Prop where
  lt : ∀ b o, σ.heap.get b = some o → b < σ.next
  obj : ∀ b o, σ.heap.get b = some o → WfO σ.next o

section
variable {n : Nat}

theorem WfV.mono {n' : Nat} {v : Value} (h : WfV n v) (hn : n ≤ n') : WfV n' v := fun r r' e => h r r' fun b hb => e b (Nat.lt_of_lt_of_le hb hn)
theorem WfL.mono {n' : Nat} {l : List Value} (h : WfL n l) (hn : n ≤ n') : WfL n' l := fun v hv => (h v hv).mono hn

theorem WfO.mono {n' : Nat} {o : AObj} (h : WfO n o) (hn : n ≤ n') : WfO n' o := by
  cases o with
  | cells c e z ro => exact WfL.mono h hn
  | map es k => exact fun e he => ⟨(h e he).1.mono hn, (h e he).2.mono hn⟩
  | loop L => exact fun k v hv => (h k v hv).mono hn
  | dead => trivial

theorem wf_const {v : Value} (h : ∀ r, ren r v = v) : WfV n v := fun r r' _ => by rw [h, h]
theorem wf_scalar {v : Value} (h : scalarOk v = true) : WfV n v := wf_const fun r => scalar_ren r h
theorem wf_bool (b : Bool) : WfV n (.bool b) := wf_const fun r => by simp [ren]
theorem wf_int (k : IntKind) (i : Int) : WfV n (.int k i) := wf_const fun r => by simp [ren]
theorem wf_string (s : ByteArray) : WfV n (.string s) := wf_const fun r => by simp [ren]
theorem wf_undef : WfV n undef := wf_const fun r => ren_undef r
theorem wf_ptrNil : WfV n (.pointer none) := wf_const fun r => by simp [ren]
theorem wf_sliceNil (k c : Nat) : WfV n (.slice none k c) := wf_const fun r => by simp [ren]
theorem wf_mapNil : WfV n (.map none) := wf_const fun r => by simp [ren]
theorem wf_nilFunc : WfV n .nilFunc := wf_const fun r => by simp [ren]
theorem wf_nilIface : WfV n .nilIface := wf_const fun r => by simp [ren]
theorem wf_ptr {a : Addr} (h : a.block < n) : WfV n (.pointer (some a)) := fun r r' e => by simp [ren, renAd, e _ h]
theorem wf_slice {a : Addr} {k c : Nat} (h : a.block < n) : WfV n (.slice (some a) k c) := fun r r' e => by simp [ren, renAd, e _ h]
theorem wf_map {b : Nat} (h : b < n) : WfV n (.map (some b)) := fun r r' e => by simp [ren, e _ h]

def up (n b : Nat) : Nat := if b < n then b else b + 1
theorem up_lt {b : Nat} (h : b = up n b) : b < n := by unfold up at h; split at h <;> omega
theorem id_up (b : Nat) (h : b < n) : id b = up n b := by simp [up, h]

theorem wf_ptr_inv {a : Addr} (h : WfV n (.pointer (some a))) : a.block < n := by
  have := h id (up n) id_up
  simp [ren, renAd] at this
  exact up_lt this
theorem wf_slice_inv {a : Addr} {k c : Nat} (h : WfV n (.slice (some a) k c)) : a.block < n := by
  have := h id (up n) id_up
  simp [ren, renAd] at this
  exact up_lt this
theorem wf_map_inv {b : Nat} (h : WfV n (.map (some b))) : b < n := by
  have := h id (up n) id_up
  simp [ren] at this
  exact up_lt this

theorem map_ren_inj {r r' : Nat → Nat} : ∀ {l : List Value}, l.map (ren r) = l.map (ren r') ↔ ∀ v ∈ l, ren r v = ren r' v
  | [] => by simp
  | x :: l => by simp [List.map_inj_left]

theorem wf_agg {a : Array Value} : WfV n (.agg a) ↔ WfL n a.toList := by
  obtain ⟨l⟩ := a
  constructor
  · intro h v hv r r' e
    have := h r r' e
    simp only [ren, renA_mk, Value.agg.injEq, Array.mk.injEq] at this
    exact map_ren_inj.1 this v hv
  · intro h r r' e
    simp only [ren, renA_mk, Value.agg.injEq, Array.mk.injEq]
    exact map_ren_inj.2 fun v hv => h v hv r r' e
theorem wf_tuple {a : Array Value} : WfV n (.tuple a) ↔ WfL n a.toList := by
  obtain ⟨l⟩ := a
  constructor
  · intro h v hv r r' e
    have := h r r' e
    simp only [ren, renA_mk, Value.tuple.injEq, Array.mk.injEq] at this
    exact map_ren_inj.1 this v hv
  · intro h r r' e
    simp only [ren, renA_mk, Value.tuple.injEq, Array.mk.injEq]
    exact map_ren_inj.2 fun v hv => h v hv r r' e
theorem wf_func {f : FuncId} {a b : Array Value} : WfV n (.func (.func f) a b) ↔ WfL n a.toList ∧ WfL n b.toList := by
  obtain ⟨l⟩ := a
  obtain ⟨m⟩ := b
  constructor
  · intro h
    constructor
    · intro v hv r r' e
      have := h r r' e
      simp only [ren, renFn, renA_mk, Value.func.injEq, Array.mk.injEq] at this
      exact map_ren_inj.1 this.2.1 v hv
    · intro v hv r r' e
      have := h r r' e
      simp only [ren, renFn, renA_mk, Value.func.injEq, Array.mk.injEq] at this
      exact map_ren_inj.1 this.2.2 v hv
  · intro h r r' e
    simp only [ren, renFn, renA_mk, Value.func.injEq, Array.mk.injEq, true_and]
    exact ⟨map_ren_inj.2 fun v hv => h.1 v hv r r' e, map_ren_inj.2 fun v hv => h.2 v hv r r' e⟩
theorem wf_iface {t : TypeId} {v : Value} : WfV n (.iface t v) ↔ WfV n v := by
  constructor
  · intro h r r' e
    have := h r r' e
    simpa [ren] using this
  · intro h r r' e
    simp [ren, h r r' e]

theorem wfL_nil : WfL n [] := fun v h => by cases h
theorem wfL_cons {x : Value} {l : List Value} : WfL n (x :: l) ↔ WfV n x ∧ WfL n l := by simp [WfL]
theorem wfL_append {l m : List Value} : WfL n (l ++ m) ↔ WfL n l ∧ WfL n m := by
  simp only [WfL, List.mem_append]
  exact ⟨fun h => ⟨fun v hv => h v (.inl hv), fun v hv => h v (.inr hv)⟩, fun h v hv => hv.elim (h.1 v) (h.2 v)⟩
theorem wfL_scalars {l : List Value} (h : l.all scalarOk = true) : WfL n l := fun v hv => wf_scalar (List.all_eq_true.1 h v hv)
theorem wfL_u8 (l : List UInt8) : WfL n (l.map fun b => Value.int .u8 b.toNat) := fun v hv => by
  obtain ⟨b, _, rfl⟩ := List.mem_map.1 hv
  exact wf_int _ _
theorem wfL_drop {l : List Value} (h : WfL n l) (k : Nat) : WfL n (l.drop k) := fun v hv => h v (List.mem_of_mem_drop hv)
theorem wfL_take? : ∀ {k : Nat} {l m : List Value}, WfL n l → take? k l = some m → WfL n m
  | 0, l, m, _, e => by simp [take?] at e; subst e; exact wfL_nil
  | k + 1, [], m, _, e => by simp [take?] at e
  | k + 1, x :: l, m, h, e => by
    simp only [take?, Option.map_eq_some_iff] at e
    obtain ⟨m', e', rfl⟩ := e
    rw [wfL_cons] at h ⊢
    exact ⟨h.1, wfL_take? h.2 e'⟩
theorem wfL_splice : ∀ {c : List Value} {o : Nat} {vs m : List Value}, WfL n c → WfL n vs → splice c o vs = some m → WfL n m
  | [], 0, [], m, h, _, e => by simp [splice] at e; subst e; exact h
  | [], 0, _ :: _, m, _, _, e => by simp [splice] at e
  | [], _ + 1, _, m, _, _, e => by simp [splice] at e
  | x :: c, 0, [], m, h, _, e => by simp [splice] at e; subst e; exact h
  | x :: c, 0, v :: vs, m, h, hv, e => by
    simp only [splice, Option.map_eq_some_iff] at e
    obtain ⟨m', e', rfl⟩ := e
    rw [wfL_cons] at h hv ⊢
    exact ⟨hv.1, wfL_splice h.2 hv.2 e'⟩
  | x :: c, o + 1, vs, m, h, hv, e => by
    simp only [splice, Option.map_eq_some_iff] at e
    obtain ⟨m', e', rfl⟩ := e
    rw [wfL_cons] at h ⊢
    exact ⟨h.1, wfL_splice h.2 hv e'⟩
theorem wfL_vcells {v : Value} (h : WfV n v) : WfL n (vcells v) := by
  cases v with
  | agg a => exact wf_agg.1 h
  | _ => exact wfL_cons.2 ⟨h, wfL_nil⟩

theorem wfL_replicate {z : List Value} (hz : z.all scalarOk = true) (k : Nat) : WfL n (List.replicate k z).flatten := by
  intro v hv
  simp only [List.mem_flatten, List.mem_replicate] at hv
  obtain ⟨l, ⟨_, rfl⟩, hv⟩ := hv
  exact wfL_scalars hz v hv

/-! ### Memory -/

theorem WfH.push {σ : AW} (h : WfH σ) {o : AObj} (ho : WfO (σ.next + 1) o) : WfH (σ.push o) where
  lt := fun b o' e => by
    simp only [AW.push, T.get_set] at e ⊢
    split at e
    · omega
    · have := h.lt b o' e; omega
  obj := fun b o' e => by
    simp only [AW.push, T.get_set] at e ⊢
    split at e
    · cases e; exact ho
    · exact (h.obj b o' e).mono (Nat.le_succ _)

theorem WfH.upd {σ : AW} (h : WfH σ) {b : Nat} {o0 o : AObj} (hb : σ.heap.get b = some o0) (ho : WfO σ.next o) : WfH (σ.upd b o) where
  lt := fun c o' e => by
    simp only [AW.upd, T.get_set] at e ⊢
    split at e
    · rename_i hc; subst hc; exact h.lt c o0 hb
    · exact h.lt c o' e
  obj := fun c o' e => by
    simp only [AW.upd, T.get_set] at e ⊢
    split at e
    · cases e; exact ho
    · exact h.obj c o' e

theorem WfH.loadN {σ : AW} (h : WfH σ) {a : Addr} {k : Nat} {cs : List Value} (e : σ.loadN a k = some cs) : WfL σ.next cs := by
  simp only [AW.loadN] at e
  split at e
  · rename_i c e' z ro hs hg
    exact wfL_take? (wfL_drop (h.obj _ _ hg) _) e
  · cases e

theorem WfH.storeN {σ σ' : AW} (h : WfH σ) {a : Addr} {vs : List Value} (hv : WfL σ.next vs) (e : σ.storeN a vs = some σ') : WfH σ' ∧ σ'.next = σ.next := by
  simp only [AW.storeN] at e
  split at e
  · rename_i c e' z hs hg
    cases hall : vs.all isCell
    · rw [hall] at e; cases e
    · rw [hall] at e
      simp only [cond_true, Option.map_eq_some_iff] at e
      obtain ⟨c', hc', rfl⟩ := e
      exact ⟨h.upd hg (o := .cells c' e' z false) (wfL_splice (h.obj _ _ hg) hv hc'), rfl⟩
  · cases e

/-! ### Operations -/

theorem wf_aFill {ev : Operand → Value} : ∀ {ps : List (Nat × Nat × Operand)} {cs cs' : List Value}, (∀ p ∈ ps, WfV n (ev p.2.2)) → WfL n cs → aFill ev cs ps = some cs' → WfL n cs'
  | [], cs, cs', _, h, e => by simp only [aFill, Option.some.injEq] at e; subst e; exact h
  | (off, size, x) :: ps, cs, cs', he, h, e => by
    simp only [aFill] at e
    cases hl : lenIs (vcells (ev x)) size
    · rw [hl] at e; cases e
    · rw [hl] at e
      simp only [cond_true] at e
      cases hs : splice cs off (vcells (ev x)) with
      | none => rw [hs] at e; cases e
      | some c1 =>
        rw [hs] at e
        exact wf_aFill (fun p hp => he p (List.mem_cons_of_mem _ hp)) (wfL_splice h (wfL_vcells (he _ (List.mem_cons_self ..))) hs) e

theorem wf_aFind {pk : PK} {k : Value} : ∀ {es : List MapEntry} {i j : Nat} {v : Value}, (∀ e ∈ es, WfV n e.key ∧ WfV n e.val) → aFind pk k es i = some (some (j, v)) → WfV n v
  | [], i, j, v, _, e => by simp [aFind] at e
  | x :: es, i, j, v, h, e => by
    simp only [aFind] at e
    split at e
    · simp only [Option.some.injEq, Prod.mk.injEq] at e
      obtain ⟨_, rfl⟩ := e
      exact (h x (List.mem_cons_self ..)).2
    · exact wf_aFind (fun e he => h e (List.mem_cons_of_mem _ he)) e
    · cases e

theorem wf_aPart {agg : Bool} {cs : List Value} {off k : Nat} {v : Value} (h : WfL n cs) (e : aPart agg cs off k = some v) : WfV n v := by
  cases agg
  · simp only [aPart, cond_false] at e
    exact h v (List.mem_of_getElem? e)
  · simp only [aPart, cond_true, Option.map_eq_some_iff] at e
    obtain ⟨l, hl, rfl⟩ := e
    exact wf_agg.2 (wfL_take? (wfL_drop h _) hl)

theorem h_add_block (a : Addr) (k : Nat) : (a.add k).block = a.block := by unfold Addr.add; split <;> rfl

theorem wf_aSrc {σ : AW} (h : WfH σ) {esz : Nat} {x : Value} {l : List Value} (e : aSrc σ esz x = some l) : WfL σ.next l := by
  unfold aSrc at e
  split at e
  · cases e; exact wfL_nil
  · exact h.loadN e
  · cases e; exact wfL_u8 _
  · cases e

theorem wf_aKill {σ σ' : AW} (h : WfH σ) {esz cap : Nat} {a : Addr} (e : aKill σ esz a cap = some σ') : WfH σ' ∧ σ'.next = σ.next := by
  unfold aKill at e
  split at e
  · rename_i c e' z ro hg
    cases hz : Nat.beq z 0
    · rw [hz] at e
      simp only [cond_false] at e
      cases h2 : (Nat.beq z esz && !ro)
      · rw [h2] at e; cases e
      · rw [h2] at e
        simp only [cond_true] at e
        cases h3 : Nat.beq (a.off + cap * esz) c.length
        · rw [h3] at e; cases e; exact ⟨h, rfl⟩
        · rw [h3] at e; cases e; exact ⟨h.upd hg trivial, rfl⟩
    · rw [hz] at e; cases e; exact ⟨h, rfl⟩
  · cases e

theorem wf_aAppend {σ σ' : AW} (h : WfH σ) {t esz bytes : Nat} {s x v : Value} (hs : WfV σ.next s) (e : aAppend t esz bytes s x σ = some (v, σ')) : WfH σ' ∧ WfV σ'.next v ∧ σ.next ≤ σ'.next := by
  unfold aAppend at e
  split at e
  · rename_i base len cap k new hn hnew
    have hw := wf_aSrc h hnew
    cases h0 : Nat.beq esz 0
    · rw [h0] at e
      simp only [cond_false] at e
      cases h1 : Nat.ble (len + k) cap
      · rw [h1] at e
        simp only [cond_false] at e
        cases h2 : (Nat.ble ((len + k) * (bytes + 1)) maxBytes && (new.all isCell && Nat.beq new.length (k * esz)))
        · rw [h2] at e; cases e
        · rw [h2] at e
          simp only [cond_true] at e
          cases base with
          | none =>
            simp only at e
            cases h3 : Nat.beq len 0
            · rw [h3] at e; cases e
            · rw [h3] at e; cases e
              exact ⟨h.push (hw.mono (Nat.le_succ _)), wf_slice (Nat.lt_succ_self _), Nat.le_succ _⟩
          | some a =>
            simp only at e
            cases h3 : σ.loadN a (len * esz) with
            | none => rw [h3] at e; cases e
            | some old =>
              rw [h3] at e
              cases h4 : aKill σ esz a cap with
              | none => rw [h4] at e; cases e
              | some σ1 =>
                rw [h4] at e; cases e
                obtain ⟨w1, w2⟩ := wf_aKill h h4
                refine ⟨w1.push (o := .cells (old ++ new) t esz false) ?_, wf_slice (Nat.lt_succ_self _), by simp only [AW.push]; omega⟩
                have := wfL_append.2 ⟨h.loadN h3, hw⟩
                exact WfL.mono this (by omega)
      · rw [h1] at e
        simp only [cond_true] at e
        cases h2 : Nat.beq k 0
        · rw [h2] at e
          simp only [cond_false] at e
          cases base with
          | none => cases e
          | some a =>
            simp only [Option.map_eq_some_iff, Prod.mk.injEq] at e
            obtain ⟨σ1, hst, rfl, rfl⟩ := e
            obtain ⟨w1, w2⟩ := h.storeN hw hst
            exact ⟨w1, by rw [w2]; exact wf_slice (wf_slice_inv hs), by omega⟩
        · rw [h2] at e; cases e
          refine ⟨h, ?_, Nat.le_refl _⟩
          cases base with
          | none => exact wf_sliceNil _ _
          | some a => exact wf_slice (wf_slice_inv hs)
    · rw [h0] at e; cases e
  · cases e

theorem wf_aCopy {σ σ' : AW} (h : WfH σ) {esz : Nat} {d s v : Value} (e : aCopy esz d s σ = some (v, σ')) : WfH σ' ∧ WfV σ'.next v ∧ σ.next ≤ σ'.next := by
  unfold aCopy at e
  split at e
  · rename_i base dLen c sLen hl
    simp only at e
    cases h0 : Nat.beq (Nat.min sLen dLen) 0
    · rw [h0] at e
      simp only [cond_false] at e
      split at e
      · rename_i a b n' c'
        cases h1 : σ.loadN b (Nat.min sLen dLen * esz) with
        | none => rw [h1] at e; cases e
        | some cs =>
          rw [h1] at e
          simp only [Option.map_eq_some_iff, Prod.mk.injEq] at e
          obtain ⟨σ1, hst, rfl, rfl⟩ := e
          obtain ⟨w1, w2⟩ := h.storeN (h.loadN h1) hst
          exact ⟨w1, wf_int _ _, by omega⟩
      · rename_i a str
        cases h1 : Nat.beq esz 1
        · rw [h1] at e; cases e
        · rw [h1] at e
          simp only [cond_true, Option.map_eq_some_iff, Prod.mk.injEq] at e
          obtain ⟨σ1, hst, rfl, rfl⟩ := e
          obtain ⟨w1, w2⟩ := h.storeN (wfL_u8 _) hst
          exact ⟨w1, wf_int _ _, by omega⟩
      · cases e
    · rw [h0] at e; cases e; exact ⟨h, wf_int _ _, Nat.le_refl _⟩
  · cases e

theorem wf_aMinMax {b : Bool} : ∀ {l : List Value} {x v : Value}, WfV n x → aMinMax b x l = some v → WfV n v
  | [], x, v, h, e => by simp only [aMinMax, Option.some.injEq] at e; subst e; exact h
  | y :: l, x, v, h, e => by
    unfold aMinMax at e
    split at e
    · rename_i e1; cases e1
    · rename_i k a k' b' rest e1
      split at e
      · exact wf_aMinMax (l := rest) (wf_int _ _) e
      · cases e
    · cases e
termination_by l => l.length
decreasing_by simp_all

theorem aop_wf {op : AOp} (hc : opC op = true) {ev : Operand → Value} {σ σ' : AW} {v : Value} (h : WfH σ) (hev : ∀ x ∈ opdsOf op, WfV σ.next (ev x)) (hs : aop ev op σ = some (v, σ')) :
    WfH σ' ∧ WfV σ'.next v ∧ σ.next ≤ σ'.next := by
  simp only [opC, Bool.and_eq_true] at hc
  obtain ⟨ho, hz, hz1⟩ := hc
  have same : ∀ {v w : Value} {σ' : AW}, some (v, σ) = some (w, σ') → WfV σ.next v → WfH σ' ∧ WfV σ'.next w ∧ σ.next ≤ σ'.next := by
    intro v w σ' e hv
    simp only [Option.some.injEq, Prod.mk.injEq] at e
    obtain ⟨rfl, rfl⟩ := e
    exact ⟨h, hv, Nat.le_refl _⟩
  have opt : ∀ {o : Option Value} {w : Value} {σ' : AW}, (o.map fun x => (x, σ)) = some (w, σ') → (∀ v, o = some v → WfV σ.next v) → WfH σ' ∧ WfV σ'.next w ∧ σ.next ≤ σ'.next := by
    intro o w σ' e hv
    simp only [Option.map_eq_some_iff, Prod.mk.injEq] at e
    obtain ⟨v, he, rfl, rfl⟩ := e
    exact ⟨h, hv v he, Nat.le_refl _⟩
  have push : ∀ {v w : Value} {o : AObj} {σ' : AW}, some (v, σ.push o) = some (w, σ') → WfV (σ.next + 1) v → WfO (σ.next + 1) o → WfH σ' ∧ WfV σ'.next w ∧ σ.next ≤ σ'.next := by
    intro v w o σ' e hv ho
    simp only [Option.some.injEq, Prod.mk.injEq] at e
    obtain ⟨rfl, rfl⟩ := e
    exact ⟨h.push ho, hv, Nat.le_succ _⟩
  cases op with
  | mov x => simp only [aop] at hs; exact same hs (hev x (by simp [opdsOf]))
  | pick c a b =>
    simp only [aop] at hs
    split at hs
    · rename_i t e
      cases t
      · exact same hs (hev b (by simp [opdsOf]))
      · exact same hs (hev a (by simp [opdsOf]))
    · cases hs
  | alloc e z =>
    have hz : z.all scalarOk = true := hz
    simp only [aop] at hs
    exact push hs (wf_ptr (Nat.lt_succ_self _)) (wfL_scalars hz)
  | box e x =>
    simp only [aop] at hs
    exact push hs (wf_ptr (Nat.lt_succ_self _)) ((wfL_vcells (hev x (by simp [opdsOf]))).mono (Nat.le_succ _))
  | build z ps =>
    have hz : z.all scalarOk = true := hz
    simp only [aop, Option.map_eq_some_iff, Prod.mk.injEq] at hs
    obtain ⟨cs, hf, rfl, rfl⟩ := hs
    exact ⟨h, wf_agg.2 (wf_aFill (fun p hp => hev p.2.2 (by simp only [opdsOf]; exact List.mem_map_of_mem hp)) (wfL_scalars hz) hf), Nat.le_refl _⟩
  | buildSlice e len z ps =>
    have hz : z.all scalarOk = true := hz
    simp only [aop, Option.map_eq_some_iff] at hs
    obtain ⟨cs, hf, hs⟩ := hs
    exact push (congrArg some hs) (wf_slice (Nat.lt_succ_self _)) (WfL.mono (wf_aFill (fun p hp => hev p.2.2 (by simp only [opdsOf]; exact List.mem_map_of_mem hp)) (wfL_scalars hz) hf) (Nat.le_succ _))
  | load1 a =>
    simp only [aop] at hs
    split at hs
    · split at hs
      · rename_i x hl
        exact same hs (wfL_cons.1 (h.loadN hl)).1
      · cases hs
    · cases hs
  | loadN k a =>
    simp only [aop] at hs
    split at hs
    · simp only [Option.map_eq_some_iff, Prod.mk.injEq] at hs
      obtain ⟨cs, hl, rfl, rfl⟩ := hs
      exact ⟨h, wf_agg.2 (h.loadN hl), Nat.le_refl _⟩
    · cases hs
  | store k a x =>
    simp only [aop] at hs
    split at hs
    · cases hl : lenIs (vcells (ev x)) k
      · rw [hl] at hs; cases hs
      · rw [hl] at hs
        simp only [cond_true, Option.map_eq_some_iff, Prod.mk.injEq] at hs
        obtain ⟨σ1, hst, rfl, rfl⟩ := hs
        obtain ⟨w1, w2⟩ := h.storeN (wfL_vcells (hev x (by simp [opdsOf]))) hst
        exact ⟨w1, wf_undef, by omega⟩
    · cases hs
  | nilCheck x =>
    have hx := hev x (by simp [opdsOf])
    simp only [aop] at hs
    split at hs
    · rename_i e; rw [e] at hx; exact same hs hx
    · rename_i e; rw [e] at hx; exact same hs hx
    · rename_i e; rw [e] at hx; exact same hs hx
    · cases hs
  | bin op eq x y =>
    simp only [aop] at hs
    exact opt hs fun v hv => wf_const fun r => (aBin_ren (r := r) hv).2
  | un op x =>
    simp only [aop] at hs
    exact opt hs fun v hv => wf_const fun r => (unary_ren (r := r) hv).2
  | convInt k x =>
    simp only [aop] at hs
    split at hs
    · exact same hs (wf_int _ _)
    · cases hs
  | convStr x =>
    simp only [aop] at hs
    split at hs
    · exact same hs (wf_string _)
    · cases hs
  | convBytesStr x =>
    simp only [aop] at hs
    split at hs
    · exact same hs (wf_string _)
    · split at hs
      · simp only [Option.map_eq_some_iff, Prod.mk.injEq] at hs
        obtain ⟨bs, hb, rfl, rfl⟩ := hs
        exact ⟨h, wf_string _, Nat.le_refl _⟩
      · cases hs
    · cases hs
  | convStrBytes e x =>
    simp only [aop] at hs
    split at hs
    · exact push hs (wf_slice (Nat.lt_succ_self _)) (wfL_u8 _)
    · cases hs
  | makeIface t x => simp only [aop] at hs; exact same hs (wf_iface.2 (hev x (by simp [opdsOf])))
  | makeFunc f a b =>
    simp only [aop] at hs
    refine same hs (wf_func.2 ⟨fun v hv => ?_, fun v hv => ?_⟩)
    · obtain ⟨x, hx, rfl⟩ := List.mem_map.1 hv; exact hev x (by simp [opdsOf, hx])
    · obtain ⟨x, hx, rfl⟩ := List.mem_map.1 hv; exact hev x (by simp [opdsOf, hx])
  | makeMap => simp only [aop] at hs; exact push hs (wf_map (Nat.lt_succ_self _)) (fun e he => by cases he)
  | makeSlice e esz bytes z l c =>
    have hz : z.all scalarOk = true := hz
    simp only [aop] at hs
    split at hs
    · split at hs
      · exact push hs (wf_slice (Nat.lt_succ_self _)) (wfL_replicate hz _)
      · cases hs
    · cases hs
  | slice k x lo hi mx =>
    have hx := hev x (by simp [opdsOf])
    cases k with
    | str =>
      simp only [aop] at hs
      refine opt hs fun v hv => ?_
      unfold aSliceStr at hv
      split at hv
      · split at hv
        · cases hv; exact wf_string _
        · cases hv
      · cases hv
    | sl esz =>
      simp only [aop] at hs
      refine opt hs fun v hv => ?_
      unfold aSliceSl at hv
      split at hv
      · rename_i a len cap e
        rw [e] at hx
        split at hv
        · rename_i l hh m hb
          cases h0 : Nat.beq cap 0
          · rw [h0] at hv
            simp only [cond_false] at hv
            cases a with
            | none => cases hv
            | some a =>
              simp only at hv
              split at hv
              · rename_i c e' z ro hg
                cases h1 : (Nat.beq z 0 || Nat.beq z esz)
                · rw [h1] at hv; cases hv
                · rw [h1] at hv; cases hv
                  exact wf_slice (by rw [h_add_block]; exact wf_slice_inv hx)
              · cases hv
          · rw [h0] at hv; cases hv
            cases a with
            | none => exact wf_sliceNil _ _
            | some a => exact wf_slice (wf_slice_inv hx)
        · cases hv
      · cases hv
    | arr k esz =>
      simp only [aop] at hs
      refine opt hs fun v hv => ?_
      unfold aSliceArr at hv
      split at hv
      · rename_i a e
        rw [e] at hx
        split at hv
        · cases hv; exact wf_slice (by rw [h_add_block]; exact wf_ptr_inv hx)
        · cases hv
      · cases hv
  | fieldAddr off x =>
    have hx := hev x (by simp [opdsOf])
    simp only [aop] at hs
    split at hs
    · rename_i a e; rw [e] at hx; exact same hs (wf_ptr (by rw [h_add_block]; exact wf_ptr_inv hx))
    · cases hs
  | field agg off k x =>
    have hx := hev x (by simp [opdsOf])
    simp only [aop] at hs
    split at hs
    · rename_i cs e; rw [e] at hx; exact opt hs fun v hv => wf_aPart (wf_agg.1 hx) hv
    · cases hs
  | indexAddrArr len esz x i =>
    have hx := hev x (by simp [opdsOf])
    simp only [aop] at hs
    split at hs
    · rename_i a i' e1 e2; rw [e1] at hx
      split at hs
      · exact same hs (wf_ptr (by rw [h_add_block]; exact wf_ptr_inv hx))
      · cases hs
    · cases hs
  | indexAddrSl esz x i =>
    have hx := hev x (by simp [opdsOf])
    simp only [aop] at hs
    split at hs
    · rename_i a len c i' e1 e2; rw [e1] at hx
      split at hs
      · exact same hs (wf_ptr (by rw [h_add_block]; exact wf_slice_inv hx))
      · cases hs
    · cases hs
  | indexStr x i =>
    simp only [aop] at hs
    split at hs
    · split at hs
      · simp only [Option.map_eq_some_iff, Prod.mk.injEq] at hs
        obtain ⟨b, hb, rfl, rfl⟩ := hs
        exact ⟨h, wf_int _ _, Nat.le_refl _⟩
      · cases hs
    · cases hs
  | indexArr agg len esz x i =>
    have hx := hev x (by simp [opdsOf])
    simp only [aop] at hs
    split at hs
    · rename_i cs i' e1 e2; rw [e1] at hx
      split at hs
      · exact opt hs fun v hv => wf_aPart (wf_agg.1 hx) hv
      · cases hs
    · cases hs
  | lookup pk z ok m k =>
    have hzw : WfV σ.next z := wf_const fun r => const_ren r hz1
    have fin : ∀ {x : Value} {b : Bool}, WfV σ.next x → WfV σ.next (if ok then .tuple #[x, .bool b] else x) := by
      intro x b hx
      cases ok
      · exact hx
      · exact wf_tuple.2 (wfL_cons.2 ⟨hx, wfL_cons.2 ⟨wf_bool _, wfL_nil⟩⟩)
    simp only [aop] at hs
    split at hs
    · exact same hs (fin hzw)
    · split at hs
      · rename_i es ck hg
        split at hs
        · rename_i j x hf
          exact same hs (fin (wf_aFind (h.obj _ _ hg) hf))
        · exact same hs (fin hzw)
        · cases hs
      · cases hs
    · cases hs
  | mapUpdate pk m k x =>
    have h2 := hev k (by simp [opdsOf]); have h3 := hev x (by simp [opdsOf])
    simp only [aop] at hs
    split at hs
    · split at hs
      · rename_i es ck hg
        have hw := h.obj _ _ hg
        split at hs
        · simp only [Option.some.injEq, Prod.mk.injEq] at hs
          obtain ⟨rfl, rfl⟩ := hs
          refine ⟨h.upd hg ?_, wf_undef, Nat.le_refl _⟩
          intro e he
          obtain ⟨i, hi⟩ := List.mem_iff_getElem?.1 he
          rw [List.getElem?_modify] at hi
          simp only [Option.map_eq_map, Option.map_eq_some_iff] at hi
          obtain ⟨e0, he0, rfl⟩ := hi
          split
          · exact ⟨h2, h3⟩
          · exact hw e0 (List.mem_of_getElem? he0)
        · simp only [Option.some.injEq, Prod.mk.injEq] at hs
          obtain ⟨rfl, rfl⟩ := hs
          refine ⟨h.upd hg ?_, wf_undef, Nat.le_refl _⟩
          intro e he
          simp only [List.mem_append, List.mem_singleton] at he
          rcases he with he | rfl
          · exact hw e he
          · exact ⟨h2, h3⟩
        · cases hs
      · cases hs
    · cases hs
  | extract x i =>
    have hx := hev x (by simp [opdsOf])
    simp only [aop] at hs
    split at hs
    · rename_i vs e; rw [e] at hx
      simp only [Option.map_eq_some_iff, Prod.mk.injEq] at hs
      obtain ⟨y, hy, rfl, rfl⟩ := hs
      exact ⟨h, wf_tuple.1 hx y (List.mem_of_getElem? hy), Nat.le_refl _⟩
    · cases hs
  | lenStr x =>
    simp only [aop] at hs
    split at hs
    · exact same hs (wf_int _ _)
    · cases hs
  | lenSl x =>
    simp only [aop] at hs
    split at hs
    · exact same hs (wf_int _ _)
    · cases hs
  | lenMap x =>
    simp only [aop] at hs
    split at hs
    · exact same hs (wf_int _ _)
    · split at hs
      · exact same hs (wf_int _ _)
      · cases hs
    · cases hs
  | append e esz bytes s x => simp only [aop] at hs; exact wf_aAppend h (hev s (by simp [opdsOf])) hs
  | copy esz d s => simp only [aop] at hs; exact wf_aCopy h hs
  | clear z s =>
    have hz : z.all scalarOk = true := hz
    simp only [aop] at hs
    split at hs
    · exact same hs (wf_tuple.2 wfL_nil)
    · rename_i a k c e
      cases h0 : Nat.beq k 0
      · rw [h0] at hs
        simp only [cond_false, Option.map_eq_some_iff, Prod.mk.injEq] at hs
        obtain ⟨σ1, hst, rfl, rfl⟩ := hs
        obtain ⟨w1, w2⟩ := h.storeN (wfL_replicate hz _) hst
        exact ⟨w1, wf_tuple.2 wfL_nil, by omega⟩
      · rw [h0] at hs; exact same hs (wf_tuple.2 wfL_nil)
    · cases hs
  | delete pk m k =>
    simp only [aop] at hs
    split at hs
    · exact same hs (wf_tuple.2 wfL_nil)
    · split at hs
      · rename_i es ck hg
        have hw := h.obj _ _ hg
        split at hs
        · simp only [Option.some.injEq, Prod.mk.injEq] at hs
          obtain ⟨rfl, rfl⟩ := hs
          exact ⟨h.upd hg (fun e he => hw e (List.mem_of_mem_eraseIdx he)), wf_tuple.2 wfL_nil, Nat.le_refl _⟩
        · exact same hs (wf_tuple.2 wfL_nil)
        · cases hs
      · cases hs
    · cases hs
  | minmax b x l => simp only [aop] at hs; exact opt hs fun v hv => wf_aMinMax (hev x (by simp [opdsOf])) hv
  | call f l => simp [aop] at hs
  | invoke x cs l => simp [aop] at hs

end
end Go.AM
