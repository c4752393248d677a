/- Regions whose order is drawn: whatever the order, what the abstract machine does in its own. -/
import Derived.Test.YtcclefkkjboaeaaGreatDoorASound3
import Derived.Test.YtcclefkkjboaeaaGreatDoorAMake
import Derived.Orders

namespace Go.AM
open Go

section
variable {P : Program} {mts : List TypeId}

/-! ### What the plan's check says -/

structure Plan (ops : Array Oper) (as : List AOper) (before : Array Nat) (l : List (Nat × List Nat)) (n : Nat) : Prop where
  osz : ops.size = n
  asz : as.length = n
  len : l.length = n
  all : ∀ i, i < n → ∃ p, p < n ∧ ordAt l p n = i
  inj : ∀ p, p < n → ∀ q, q < p → ordAt l q n ≠ ordAt l p n
  lin : ∀ p, p < n → ∀ j, j ∈ edges ops (ordAt l p n) → ∃ q, q < p ∧ ordAt l q n = j
  act : ∀ p, p < n → ∀ q, q < p → actAt as (ordAt l q n) = true → bit before (ordAt l p n) (ordAt l q n) = true
  clo : ∀ i, i < n → ∀ j, j < n → bit before i j = true → ∃ e, e ∈ edges ops i ∧ (e = j ∨ bit before e j = true)
  tmp : ∀ i, i < n → ∀ j, j < n → i ≠ j → ∀ t, dstOf as j = some t → t ∈ looks ops as i → bit before i j = true ∨ bit before j i = true
  one : ∀ i, i < n → ∀ j, j < n → i ≠ j → ∀ t, dstOf as i = some t → dstOf as j ≠ some t
  agn : ∀ p, p < n → ∀ e ag, l[p]? = some (e, ag) → (∀ i, i ∈ ag → readAt as i = true ∧ noWar as before n i = true) ∧
    (actAt as e = true → ∀ q, q < p → readAt as (ordAt l q n) = true → bit before e (ordAt l q n) = true ∨ ordAt l q n ∈ ag)

theorem beq_iff {a b : Nat} : Nat.beq a b = true ↔ a = b := ⟨Nat.eq_of_beq_eq_true, fun h => by subst h; simp⟩

theorem plan_of {ops : Array Oper} {as : List AOper} {before : Array Nat} {l : List (Nat × List Nat)} {n : Nat} (h : planOk ops as before l n = true) : Plan ops as before l n := by
  simp only [planOk, Bool.and_eq_true, List.all_eq_true, List.any_eq_true, List.mem_range, Bool.or_eq_true, Bool.not_eq_true', beq_iff] at h
  obtain ⟨h1, h2, h3, h4, h5, h6, h7, h8, h9, h10, h11⟩ := h
  refine ⟨h1, h2, h3, h4, ?_, h6, ?_, ?_, ?_, ?_, ?_⟩
  · intro p hp q hq e
    have := h5 p hp q hq
    rw [beq_iff.2 e] at this; cases this
  · intro p hp q hq ha
    rcases h7 p hp q hq with h | h
    · rw [ha] at h; cases h
    · exact h
  · intro i hi j hj hb
    rcases h8 i hi j hj with h | h
    · rw [hb] at h; cases h
    · exact h
  · intro i hi j hj hne t hd ht
    rcases h9 i hi j hj with h | h
    · exact absurd h hne
    · rw [hd] at h
      simp only [Bool.or_eq_true, Bool.not_eq_true'] at h
      rcases h with h | h
      · rw [List.contains_iff_mem.2 ht] at h; cases h
      · exact h
  · intro i hi j hj hne t hd e
    rcases h10 i hi j hj with h | h
    · exact absurd h hne
    · rw [hd, e] at h
      simp at h
  · intro p hp e ag hl
    have := h11 p hp
    rw [hl] at this
    simp only [Bool.and_eq_true, List.all_eq_true, Bool.or_eq_true, Bool.not_eq_true', List.mem_range] at this
    refine ⟨this.1, fun ha q hq hr => ?_⟩
    rcases this.2 with h | h
    · rw [ha] at h; cases h
    · rcases h q hq with (h | h) | h
      · rw [hr] at h; cases h
      · exact .inl h
      · exact .inr (List.contains_iff_mem.1 h)

/-! ### The run in the plan's order, position by position -/

def AgainOk (o : AOper) (tm : T Value) (σ : AW) : Prop :=
  wanted tm o.guard = true → ∃ v σ' d, aop (aev tm) o.op σ = some (v, σ') ∧ o.dst = some d ∧ tm.get d = some v

theorem again_ok {l : List AOper} {tm : T Value} {σ : AW} (h : runAgain l tm σ = true) : ∀ o, o ∈ l → AgainOk o tm σ := by
  induction l with
  | nil => intro o ho; cases ho
  | cons x l ih =>
    intro o ho
    simp only [runAgain, Bool.and_eq_true] at h
    rcases List.mem_cons.1 ho with rfl | ho
    · intro hw
      have h1 := h.1
      rw [hw] at h1
      simp only [cond_true] at h1
      split at h1
      · rename_i v σ' d h2 h3
        split at h1
        · rename_i v' h4
          have := veq_eq _ _ h1
          subst this
          exact ⟨_, _, _, h2, h3, h4⟩
        · cases h1
      · cases h1
    · exact ih h.2 o ho

structure Trace (F : FuncId → Option AFunc) (ex : Exec) (ds : List DOper) (T' : Nat → T Value) (S : Nat → AW) : Prop where
  run : ∀ p d, ds[p]? = some d → runOper F ex d.op (T' p) (S p) = some (T' (p + 1), S (p + 1))
  agn : ∀ p d, ds[p]? = some d → runAgain d.again (T' (p + 1)) (S (p + 1)) = true

theorem trace_of {F : FuncId → Option AFunc} {ex : Exec} : ∀ (ds : List DOper) (tm : T Value) (σ : AW) (tm' : T Value) (σ' : AW), runDraw F ex ds tm σ = some (tm', σ') →
    ∃ T' S, T' 0 = tm ∧ S 0 = σ ∧ T' ds.length = tm' ∧ S ds.length = σ' ∧ Trace F ex ds T' S := by
  intro ds
  induction ds with
  | nil =>
    intro tm σ tm' σ' h
    simp only [runDraw, Option.some.injEq, Prod.mk.injEq] at h
    obtain ⟨rfl, rfl⟩ := h
    exact ⟨fun _ => tm, fun _ => σ, rfl, rfl, rfl, rfl, ⟨fun p d h => by simp at h, fun p d h => by simp at h⟩⟩
  | cons d ds ih =>
    intro tm σ tm' σ' h
    simp only [runDraw] at h
    split at h
    · rename_i tm₁ σ₁ h1
      cases hb : runAgain d.again tm₁ σ₁ with
      | false => rw [hb] at h; cases h
      | true =>
        rw [hb] at h
        simp only [cond_true] at h
        obtain ⟨T', S, e1, e2, e3, e4, tr⟩ := ih tm₁ σ₁ tm' σ' h
        refine ⟨fun p => match p with | 0 => tm | p + 1 => T' p, fun p => match p with | 0 => σ | p + 1 => S p, rfl, rfl, e3, e4, ⟨?_, ?_⟩⟩
        · intro p d' hp
          cases p with
          | zero => cases hp; simp only [e1, e2]; exact h1
          | succ p => exact tr.run p d' (by simpa using hp)
        · intro p d' hp
          cases p with
          | zero => cases hp; simp only [e1, e2]; exact hb
          | succ p => exact tr.agn p d' (by simpa using hp)
    · cases h

theorem pickAll_spec {as : List AOper} : ∀ (l : List Nat) (os : List AOper), pickAll as l = some os → ∀ i, i ∈ l → ∃ o, as[i]? = some o ∧ o ∈ os := by
  intro l
  induction l with
  | nil => intro os _ i hi; cases hi
  | cons j l ih =>
    intro os h i hi
    simp only [pickAll] at h
    split at h
    · rename_i o os' h1 h2
      cases h
      rcases List.mem_cons.1 hi with rfl | hi
      · exact ⟨o, h1, List.mem_cons_self ..⟩
      · obtain ⟨o', h3, h4⟩ := ih os' h2 i hi
        exact ⟨o', h3, List.mem_cons_of_mem _ h4⟩
    · cases h

theorem planOf_spec {as : List AOper} : ∀ (l : List (Nat × List Nat)) (ds : List DOper), planOf as l = some ds →
    ds.length = l.length ∧ ∀ (p i : Nat) (ag : List Nat), l[p]? = some (i, ag) → ∃ d, ds[p]? = some d ∧ as[i]? = some d.op ∧ ∀ j, j ∈ ag → ∃ o, as[j]? = some o ∧ o ∈ d.again := by
  intro l
  induction l with
  | nil => intro ds h; simp only [planOf, Option.some.injEq] at h; subst h; exact ⟨rfl, fun p i ag hp => by simp at hp⟩
  | cons x l ih =>
    obtain ⟨i0, ag0⟩ := x
    intro ds h
    simp only [planOf] at h
    split at h
    · rename_i o os ds' h1 h2 h3
      cases h
      obtain ⟨e, h4⟩ := ih ds' h3
      refine ⟨by simp [e], fun p i ag hp => ?_⟩
      cases p with
      | zero =>
        simp only [List.getElem?_cons_zero, Option.some.injEq, Prod.mk.injEq] at hp
        obtain ⟨rfl, rfl⟩ := hp
        exact ⟨_, rfl, h1, pickAll_spec _ _ h2⟩
      | succ p => exact h4 p i ag (by simpa using hp)
    · cases h

theorem compOpers_spec {nt : Nat} {ops : Array Oper} : ∀ (l : List Oper) (as : List AOper), compOpers P mts nt ops l = some as →
    as.length = l.length ∧ ∀ (i : Nat) (o : Oper), l[i]? = some o → ∃ ao, as[i]? = some ao ∧ compOper P mts nt ops o = some ao := by
  intro l
  induction l with
  | nil => intro as h; simp only [compOpers, Option.some.injEq] at h; subst h; exact ⟨rfl, fun i o h => by simp at h⟩
  | cons x l ih =>
    intro as h
    simp only [compOpers] at h
    split at h
    · rename_i a as' h1 h2
      cases h
      obtain ⟨e, h3⟩ := ih as' h2
      refine ⟨by simp [e], fun i o hi => ?_⟩
      cases i with
      | zero => cases hi; exact ⟨a, rfl, h1⟩
      | succ i => exact h3 i o (by simpa using hi)
    · cases h

/-! ### A region, its plan, its run -/

structure Ctx (P : Program) (mts : List TypeId) (F : FuncId → Option AFunc) (ex : Exec) where
  ops : Array Oper
  as : List AOper
  l : List (Nat × List Nat)
  nt : Nat
  T' : Nat → T Value
  S : Nat → AW
  n : Nat
  before : Array Nat
  plan : Plan ops as before l n
  comp : ∀ (i : Nat) (o : Oper), ops[i]? = some o → ∃ ao, as[i]? = some ao ∧ compOper P mts nt ops o = some ao
  run : ∀ p, p < n → ∃ ao, as[ordAt l p n]? = some ao ∧ runOper F ex ao (T' p) (S p) = some (T' (p + 1), S (p + 1))
  agn : ∀ p, p < n → ∀ e ag, l[p]? = some (e, ag) → ∀ i, i ∈ ag → ∃ ao, as[i]? = some ao ∧ AgainOk ao (T' (p + 1)) (S (p + 1))

variable {F : FuncId → Option AFunc} {ex : Exec}

namespace Ctx
variable (C : Ctx P mts F ex)

abbrev ord (p : Nat) : Nat := ordAt C.l p C.n

theorem ordInj {p q : Nat} (hp : p < C.n) (hq : q < C.n) (h : C.ord p = C.ord q) : p = q := by
  rcases Nat.lt_trichotomy p q with h1 | h1 | h1
  · exact absurd h (C.plan.inj q hq p h1)
  · exact h1
  · exact absurd h.symm (C.plan.inj p hp q h1)

theorem ord_lt {p : Nat} (hp : p < C.n) : C.ord p < C.n := by
  obtain ⟨ao, h, _⟩ := C.run p hp
  have := (List.getElem?_eq_some_iff.1 h).1
  rw [C.plan.asz] at this; exact this

theorem at_ord {p : Nat} (hp : p < C.n) : ∃ e ag, C.l[p]? = some (e, ag) ∧ C.ord p = e := by
  have hl : p < C.l.length := by rw [C.plan.len]; exact hp
  refine ⟨C.l[p].1, C.l[p].2, by simp [hl], ?_⟩
  simp [ord, ordAt, hl]

theorem bitpos : ∀ (p : Nat), p < C.n → ∀ j, j < C.n → bit C.before (C.ord p) j = true → ∃ q, q < p ∧ C.ord q = j := by
  intro p
  induction p using Nat.strongRecOn with
  | _ p ih =>
    intro hp j hj hb
    obtain ⟨e, he, h⟩ := C.plan.clo _ (C.ord_lt hp) j hj hb
    obtain ⟨q, hq, hqe⟩ := C.plan.lin p hp e he
    rcases h with h | h
    · exact ⟨q, hq, hqe.trans h⟩
    · rw [← hqe] at h
      obtain ⟨r, hr, hre⟩ := ih q hq (by omega) j hj h
      exact ⟨r, by omega, hre⟩

/-- What is written at a position. -/
theorem T_put {p : Nat} (hp : p < C.n) : ∃ ao v, C.as[C.ord p]? = some ao ∧ C.T' (p + 1) = putD (C.T' p) ao.dst v := by
  obtain ⟨ao, h, hr⟩ := C.run p hp
  refine ⟨ao, ?_⟩
  unfold runOper at hr
  cases hb : wanted (C.T' p) ao.guard with
  | false => rw [hb] at hr; simp only [cond_false, Option.some.injEq, Prod.mk.injEq] at hr; exact ⟨_, h, hr.1.symm⟩
  | true =>
    rw [hb] at hr
    simp only [cond_true] at hr
    split at hr
    · simp only [Option.some.injEq, Prod.mk.injEq] at hr; exact ⟨_, h, hr.1.symm⟩
    · cases hr

theorem T_keep {t : Nat} (p : Nat) : ∀ q, p ≤ q → q ≤ C.n → (∀ r, p ≤ r → r < q → dstOf C.as (C.ord r) ≠ some t) → (C.T' q).get t = (C.T' p).get t := by
  intro q
  induction q with
  | zero => intro h _ _; have : p = 0 := by omega
            subst this; rfl
  | succ q ih =>
    intro h hq hr
    rcases Nat.lt_or_ge p (q + 1) with h1 | h1
    · rw [← ih (by omega) (by omega) (fun r a b => hr r a (by omega))]
      obtain ⟨ao, v, ha, hT⟩ := C.T_put (p := q) (by omega)
      have hd := hr q (by omega) (by omega)
      rw [hT]
      cases hds : ao.dst with
      | none => rfl
      | some d =>
        have : d ≠ t := by
          intro e; apply hd; simp [dstOf, ha, hds, e]
        simp only [putD]
        exact T.get_set_ne _ _ _ _ (fun e => this e.symm)
    · have : p = q + 1 := by omega
      subst this; rfl

theorem push_of_make {ev : Operand → Value} {op : AOp} {σ σ' : AW} {v : Value} (hc : clsOf op = .make) (hr : aop ev op σ = some (v, σ')) : ∃ o, σ' = σ.push o := by
  cases op with
  | alloc e z => cases hr; exact ⟨_, rfl⟩
  | box e x => cases hr; exact ⟨_, rfl⟩
  | makeMap => cases hr; exact ⟨_, rfl⟩
  | buildSlice e l z ps => simp only [aop, Option.map_eq_some_iff] at hr; obtain ⟨c, _, he⟩ := hr; cases he; exact ⟨_, rfl⟩
  | makeSlice e n m z l c =>
    simp only [aop] at hr
    split at hr
    · split at hr
      · cases hr; exact ⟨_, rfl⟩
      · cases hr
    · cases hr
  | slice k x lo hi mx => cases k <;> cases hc
  | _ => cases hc

theorem aoper_aop {ev : Operand → Value} {op : AOp} {σ : AW} (h : clsOf op ≠ .act) : aoper F ex ev op σ = aop ev op σ := by
  cases op <;> first | rfl | exact absurd rfl h

theorem act_cls {i : Nat} {ao : AOper} (ha : C.as[i]? = some ao) (h : actAt C.as i = false) : clsOf ao.op ≠ .act := by
  intro e
  simp [actAt, ha, isAct, e] at h

/-- A position that does not act leaves the memory, or makes. -/
theorem S_calm {p : Nat} (hp : p < C.n) (h : actAt C.as (C.ord p) = false) : C.S (p + 1) = C.S p ∨ ∃ o, C.S (p + 1) = (C.S p).push o := by
  obtain ⟨ao, ha, hr⟩ := C.run p hp
  have hcls := C.act_cls ha h
  unfold runOper at hr
  cases hb : wanted (C.T' p) ao.guard with
  | false => rw [hb] at hr; simp only [cond_false, Option.some.injEq, Prod.mk.injEq] at hr; exact .inl hr.2.symm
  | true =>
    rw [hb] at hr
    simp only [cond_true] at hr
    split at hr
    · rename_i v σ' hop
      simp only [Option.some.injEq, Prod.mk.injEq] at hr
      obtain ⟨_, hσ⟩ := hr
      subst hσ
      rw [aoper_aop hcls] at hop
      cases hc : clsOf ao.op with
      | pure => exact .inl (pure_same hc hop).1
      | read => exact .inl (read_same hc hop).1
      | make => exact .inr (push_of_make hc hop)
      | act => exact absurd hc hcls
    · cases hr

end Ctx

/-! ### The invariant -/

structure Inv (C : Ctx P mts F ex) (ρ₀ : Rho) (w₀ : World) (ds : List Deferred) (L : Nat → Bool) (a : Act) (w : World) (c : Nat) (ρ : Rho) : Prop where
  clo : ∀ i, i < C.n → L i = true → ∀ j, j ∈ edges C.ops i → L j = true
  cle : c ≤ C.n
  acts : ∀ q, q < c → actAt C.as (C.ord q) = true → L (C.ord q) = true
  un : ∀ q, c ≤ q → q < C.n → L (C.ord q) = false
  st : Step P mts ρ₀ (C.S 0) w₀ ρ (C.S c) w
  size : a.tmps.size = C.nt
  defs : a.defers = ds
  wrote : ∀ q, q < C.n → L (C.ord q) = true → ∀ t, dstOf C.as (C.ord q) = some t → VRel ρ (((C.T' (q + 1)).get t).getD undef) (a.tmps.getD t undef)
  kept : ∀ t, (∀ q, q < C.n → dstOf C.as (C.ord q) = some t → L (C.ord q) = false) → VRel ρ (((C.T' 0).get t).getD undef) (a.tmps.getD t undef)
  made : ∀ q, q < c → L (C.ord q) = false → ∀ o, C.S (q + 1) = (C.S q).push o → ρ (C.S q).next = none ∧ (C.S c).heap.get (C.S q).next = some o
  mono : ∀ q, q < c → (C.S q).next ≤ (C.S (q + 1)).next
  fresh : ∀ q, q ≤ c → ∀ b, (C.S q).next ≤ b → (C.S q).heap.get b = none

variable {C : Ctx P mts F ex} {ρ₀ : Rho} {w₀ : World} {ds : List Deferred} {L : Nat → Bool} {a : Act} {w : World} {c : Nat} {ρ : Rho}

theorem Inv.monoLe (h : Inv C ρ₀ w₀ ds L a w c ρ) {p : Nat} : ∀ q, p ≤ q → q ≤ c → (C.S p).next ≤ (C.S q).next := by
  intro q
  induction q with
  | zero => intro hp _; have : p = 0 := by omega
            subst this; exact Nat.le_refl _
  | succ q ih =>
    intro hp hq
    rcases Nat.lt_or_ge p (q + 1) with h1 | h1
    · exact Nat.le_trans (ih (by omega) (by omega)) (h.mono q (by omega))
    · have : p = q + 1 := by omega
      subst this; exact Nat.le_refl _

theorem Inv.advance (h : Inv C ρ₀ w₀ ds L a w c ρ) (hc : c < C.n) (hact : actAt C.as (C.ord c) = false) : Inv C ρ₀ w₀ ds L a w (c + 1) ρ := by
  have hcalm := C.S_calm hc hact
  refine { clo := h.clo, cle := hc, acts := ?_, un := fun q h1 h2 => h.un q (by omega) h2, st := ?_, size := h.size, defs := h.defs, wrote := h.wrote, kept := h.kept, made := ?_, mono := ?_, fresh := ?_ }
  · intro q hq ha
    rcases Nat.lt_or_ge q c with h1 | h1
    · exact h.acts q h1 ha
    · have : q = c := by omega
      subst this; rw [hact] at ha; cases ha
  · rcases hcalm with e | ⟨o, e⟩
    · rw [e]; exact h.st
    · rw [e]; exact h.st.grow o
  · intro q hq hL o ho
    rcases Nat.lt_or_ge q c with h1 | h1
    · obtain ⟨h2, h3⟩ := h.made q h1 hL o ho
      refine ⟨h2, ?_⟩
      rcases hcalm with e | ⟨o', e⟩
      · rw [e]; exact h3
      · rw [e]; exact get_push (h.fresh c (Nat.le_refl _) _ (Nat.le_refl _)) _ h3
    · have : q = c := by omega
      subst this
      refine ⟨h.st.rel.none_of_le (Nat.le_refl _), ?_⟩
      rw [ho, push_get, if_pos rfl]
  · intro q hq
    rcases Nat.lt_or_ge q c with h1 | h1
    · exact h.mono q h1
    · have : q = c := by omega
      subst this
      rcases hcalm with e | ⟨o, e⟩
      · rw [e]; exact Nat.le_refl _
      · rw [e]; simp [AW.push]
  · intro q hq b hb
    rcases Nat.lt_or_ge q (c + 1) with h1 | h1
    · exact h.fresh q (by omega) b hb
    · have : q = c + 1 := by omega
      subst this
      rcases hcalm with e | ⟨o, e⟩
      · rw [e] at hb ⊢; exact h.fresh c (Nat.le_refl _) b hb
      · rw [e] at hb ⊢
        simp only [AW.push] at hb
        rw [push_get, if_neg (by omega)]
        exact h.fresh c (Nat.le_refl _) b (by omega)

theorem Inv.advanceAll : ∀ (m : Nat) {c : Nat}, C.n - c = m → Inv C ρ₀ w₀ ds L a w c ρ → ∃ c', Inv C ρ₀ w₀ ds L a w c' ρ ∧ (c' = C.n ∨ actAt C.as (C.ord c') = true) := by
  intro m
  induction m with
  | zero => intro c hm h; exact ⟨c, h, .inl (by have := h.cle; omega)⟩
  | succ m ih =>
    intro c hm h
    cases hact : actAt C.as (C.ord c) with
    | true => exact ⟨c, h, .inr hact⟩
    | false => exact ih (by omega) (h.advance (by omega) hact)

/-- What stands ahead of a listed operation is listed. -/
theorem Inv.closed (h : Inv C ρ₀ w₀ ds L a w c ρ) : ∀ (p : Nat), p < C.n → (∀ j, j ∈ edges C.ops (C.ord p) → L j = true) → ∀ j, j < C.n → bit C.before (C.ord p) j = true → L j = true := by
  intro p
  induction p using Nat.strongRecOn with
  | _ p ih =>
    intro hp he j hj hb
    obtain ⟨e, hee, hor⟩ := C.plan.clo _ (C.ord_lt hp) j hj hb
    rcases hor with rfl | hor
    · exact he _ hee
    · obtain ⟨q, hq, hqe⟩ := C.plan.lin p hp e hee
      subst hqe
      exact ih q hq (by omega) (h.clo _ (C.ord_lt (by omega)) (he _ hee)) j hj hor

theorem Inv.closedL (h : Inv C ρ₀ w₀ ds L a w c ρ) {p : Nat} (hp : p < C.n) (hL : L (C.ord p) = true) {j : Nat} (hj : j < C.n) (hb : bit C.before (C.ord p) j = true) : L j = true :=
  h.closed p hp (h.clo _ (C.ord_lt hp) hL) j hj hb

/-- What an operation that is ready looks at stands as it stood in the plan's order. -/
theorem Inv.look (h : Inv C ρ₀ w₀ ds L a w c ρ) {q : Nat} (hq : q < C.n) (hL : L (C.ord q) = false) (he : ∀ j, j ∈ edges C.ops (C.ord q) → L j = true) {t : Nat} (ht : t ∈ looks C.ops C.as (C.ord q)) :
    VRel ρ (((C.T' q).get t).getD undef) (a.tmps.getD t undef) := by
  have keep0 : (∀ r, r < C.n → dstOf C.as (C.ord r) = some t → q ≤ r ∧ L (C.ord r) = false) → VRel ρ (((C.T' q).get t).getD undef) (a.tmps.getD t undef) := by
    intro hr
    rw [C.T_keep 0 q (by omega) (by omega) (fun r _ hrq e => by have := (hr r (by omega) e).1; omega)]
    exact h.kept t fun r hr' e => (hr r hr' e).2
  by_cases hex : ∃ p, p < C.n ∧ dstOf C.as (C.ord p) = some t
  · obtain ⟨p, hp, hd⟩ := hex
    have uniq : ∀ r, r < C.n → dstOf C.as (C.ord r) = some t → r = p := by
      intro r hr e
      apply C.ordInj hr hp
      apply Decidable.byContradiction
      intro hne
      exact C.plan.one _ (C.ord_lt hr) _ (C.ord_lt hp) hne t e hd
    by_cases hpq : p = q
    · subst hpq
      exact keep0 fun r hr e => by have := uniq r hr e; subst this; exact ⟨Nat.le_refl _, hL⟩
    · have hne : C.ord q ≠ C.ord p := fun e => hpq (C.ordInj hq hp e).symm
      rcases C.plan.tmp _ (C.ord_lt hq) _ (C.ord_lt hp) hne t hd ht with hb | hb
      · have hLp := h.closed q hq he _ (C.ord_lt hp) hb
        obtain ⟨p', hp', e'⟩ := C.bitpos q hq _ (C.ord_lt hp) hb
        have : p' = p := C.ordInj (by omega) hp e'
        subst this
        rw [C.T_keep (p' + 1) q (by omega) (by omega) (fun r h1 h2 e => by have := uniq r (by omega) e; omega)]
        exact h.wrote p' hp hLp t hd
      · have hLp : L (C.ord p) = false := by
          cases hLp : L (C.ord p) with
          | false => rfl
          | true => have := h.closedL hp hLp (C.ord_lt hq) hb; rw [hL] at this; cases this
        obtain ⟨q', hq', e'⟩ := C.bitpos p hp _ (C.ord_lt hq) hb
        have : q' = q := C.ordInj (by omega) hq e'
        subst this
        exact keep0 fun r hr e => by have := uniq r hr e; subst this; exact ⟨by omega, hLp⟩
  · exact keep0 fun r hr e => absurd ⟨r, hr, e⟩ hex

end
end Go.AM
