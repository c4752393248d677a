/- Regions whose order is drawn: the whole. -/
import Derived.Test.YtcclefkkjboaeaaGreatDoorADraw2

namespace Go.AM
open Go

section
variable {P : Program} {mts : List TypeId}
variable {F : FuncId → Option AFunc} {ex : Exec}
variable {C : Ctx P mts F ex} {ρ₀ : Rho} {w₀ : World} {ds : List Deferred}

def isListed (A : Array Bool) : Nat → Bool := fun i => A.getD i false

def left (A : Array Bool) (n : Nat) : Nat := ((List.range n).filter fun i => !A.getD i false).length

theorem filter_lt {p p' : Nat → Bool} (h : ∀ x, p' x = true → p x = true) : ∀ (l : List Nat), (l.filter p').length ≤ (l.filter p).length ∧ ∀ i, i ∈ l → p i = true → p' i = false → (l.filter p').length < (l.filter p).length := by
  intro l
  induction l with
  | nil => exact ⟨Nat.le_refl _, fun i hi => by cases hi⟩
  | cons x l ih =>
    obtain ⟨i1, i2⟩ := ih
    constructor
    · cases hp' : p' x with
      | true => simp only [List.filter_cons, hp', h x hp', if_true, List.length_cons]; omega
      | false =>
        cases hp : p x with
        | true => simp [List.filter_cons, hp', hp]; omega
        | false => simp [List.filter_cons, hp', hp]; omega
    · intro i hi hpi hp'i
      cases hp' : p' x with
      | true =>
        have hxi : i ∈ l := by
          rcases List.mem_cons.1 hi with rfl | hi
          · rw [hp'] at hp'i; cases hp'i
          · exact hi
        have := i2 i hxi hpi hp'i
        simp only [List.filter_cons, hp', h x hp', if_true, List.length_cons]; omega
      | false =>
        cases hp : p x with
        | true => simp [List.filter_cons, hp', hp]; omega
        | false =>
          have hxi : i ∈ l := by
            rcases List.mem_cons.1 hi with rfl | hi
            · rw [hp] at hpi; cases hpi
            · exact hi
          have := i2 i hxi hpi hp'i
          simp [List.filter_cons, hp', hp]; omega

theorem left_set {A : Array Bool} {n i : Nat} (hn : A.size = n) (hi : i < n) (hA : A.getD i false = false) : left (A.setIfInBounds i true) n < left A n := by
  refine (filter_lt (fun x hx => ?_) (List.range n)).2 i (List.mem_range.2 hi) (by simpa using hA) ?_
  · by_cases e : x = i
    · subst e; simp [hn, hi] at hx
    · simp only [Array.getD_eq_getD_getElem?, Array.getElem?_setIfInBounds_ne (fun e' => e e'.symm)] at hx ⊢
      exact hx
  · have hi' : i < A.size := by omega
    simp [hi']

theorem listed_set {A : Array Bool} {n i : Nat} (hn : A.size = n) (hi : i < n) : isListed (A.setIfInBounds i true) = also (isListed A) i := by
  funext j
  unfold isListed also
  have hi' : i < A.size := by omega
  by_cases e : j = i
  · subst e; simp [hi']
  · rw [if_neg e]
    simp only [Array.getD_eq_getD_getElem?, Array.getElem?_setIfInBounds_ne (fun e' => e e'.symm)]

theorem edges_listed {ops : Array Oper} {i : Nat} {o : Oper} (ho : ops[i]? = some o) {A : Array Bool} :
    (o.after.all fun e => !Region.binds .any e || A.getD e.on false) = true ↔ ∀ j, j ∈ edges ops i → isListed A j = true := by
  simp only [edges, ho, List.mem_map, List.mem_filter, isListed]
  rw [Array.all_eq_true']
  constructor
  · intro h j hj
    obtain ⟨e, ⟨he, hb⟩, rfl⟩ := hj
    have := h e (by simpa using he)
    rw [hb] at this
    simpa using this
  · intro h e he
    cases hb : Region.binds .any e with
    | false => rfl
    | true =>
      have := h e.on ⟨e, ⟨by simpa using he, hb⟩, rfl⟩
      simpa using this

theorem go_sound (hF : FunsOK P mts F ex) (hg : GlobOK ρ₀) (b : Frame) (k : List Item) (cs : List Frame) : ∀ (fuel t : Nat) (A : Array Bool) (a : Act) (w : World) (c : Nat) (ρ : Rho), A.size = C.n → left A C.n ≤ fuel →
    Inv C ρ₀ w₀ ds (isListed A) a w c ρ → (c = C.n ∨ actAt C.as (C.ord c) = true) →
    ∃ a' w' ρ' L', Steps P (lone (b.atR a (.inRegion C.ops (Region.linearise.go .any C.ops fuel t A []) :: k)) cs w) (lone (b.atR a' (.inRegion C.ops [] :: k)) cs w') ∧
      Inv C ρ₀ w₀ ds L' a' w' C.n ρ' ∧ ∀ p, p < C.n → L' (C.ord p) = true := by
  -- where nothing is ready, all is listed
  have done : ∀ (A : Array Bool) (a : Act) (w : World) (c : Nat) (ρ : Rho), A.size = C.n → Inv C ρ₀ w₀ ds (isListed A) a w c ρ → (∀ i, i < C.n → isListed A i = false → ¬ ∀ j, j ∈ edges C.ops i → isListed A j = true) →
      Inv C ρ₀ w₀ ds (isListed A) a w C.n ρ ∧ ∀ p, p < C.n → isListed A (C.ord p) = true := by
    intro A a w c ρ hA h hno
    have hall : ∀ p, p < C.n → isListed A (C.ord p) = true := by
      intro p
      induction p using Nat.strongRecOn with
      | _ p ih =>
        intro hp
        cases hL : isListed A (C.ord p) with
        | true => rfl
        | false =>
          exact absurd (fun j hj => by
            obtain ⟨q, hq, e⟩ := C.plan.lin p hp j hj
            rw [← e]; exact ih q hq (by omega)) (hno _ (C.ord_lt hp) hL)
    refine ⟨?_, hall⟩
    have hcn : c = C.n := by
      rcases Nat.lt_or_ge c C.n with h1 | h1
      · have := h.un c (Nat.le_refl _) h1
        rw [hall c h1] at this; cases this
      · have := h.cle; omega
    rw [← hcn]
    exact h
  intro fuel
  induction fuel with
  | zero =>
    intro t A a w c ρ hA hleft h hc
    simp only [Region.linearise.go, List.reverse_nil]
    obtain ⟨h1, h2⟩ := done A a w c ρ hA h (fun i hi hL => by
      exfalso
      have : i ∈ (List.range C.n).filter fun i => !A.getD i false := List.mem_filter.2 ⟨List.mem_range.2 hi, by unfold isListed at hL; rw [hL]; rfl⟩
      have hlen : 0 < left A C.n := List.length_pos_of_mem this
      omega)
    exact ⟨a, w, ρ, _, Steps.refl _ _, h1, h2⟩
  | succ fuel ih =>
    intro t A a w c ρ hA hleft h hc
    simp only [Region.linearise.go]
    have hready : ∀ i, i ∈ Region.ready .any C.ops A ↔ i < C.n ∧ isListed A i = false ∧ ∀ j, j ∈ edges C.ops i → isListed A j = true := by
      intro i
      simp only [Region.ready, List.mem_filter, List.mem_range, Bool.and_eq_true, Bool.not_eq_true', C.plan.osz]
      constructor
      · rintro ⟨hi, h1, h2⟩
        have hio : i < C.ops.size := by rw [C.plan.osz]; exact hi
        have ho : C.ops[i]? = some C.ops[i] := by simp [hio]
        refine ⟨hi, ?_, ?_⟩
        · have hiA : i < A.size := by omega
          unfold isListed
          simpa [hiA] using h1
        · rw [ho] at h2
          exact (edges_listed ho).1 (by simpa using h2)
      · rintro ⟨hi, h1, h2⟩
        have hio : i < C.ops.size := by rw [C.plan.osz]; exact hi
        have ho : C.ops[i]? = some C.ops[i] := by simp [hio]
        refine ⟨hi, ?_, ?_⟩
        · have hiA : i < A.size := by omega
          unfold isListed at h1
          simpa [hiA] using h1
        · rw [ho]
          simpa using (edges_listed ho).2 h2
    change ∃ a' w' ρ' L', Steps P (lone (b.atR a (.inRegion C.ops (match (Region.ready .any C.ops A)[t % (Region.ready .any C.ops A).length]? with
      | some i => Region.linearise.go .any C.ops fuel (t / (Region.ready .any C.ops A).length) (A.setIfInBounds i true) [i]
      | none => [].reverse) :: k)) cs w) _ ∧ _
    cases hi : (Region.ready .any C.ops A)[t % (Region.ready .any C.ops A).length]? with
    | none =>
      have hnil : Region.ready .any C.ops A = [] := by
        cases hr : Region.ready .any C.ops A with
        | nil => rfl
        | cons x xs =>
          rw [hr] at hi
          have hlt : t % (x :: xs).length < (x :: xs).length := Nat.mod_lt _ (by simp)
          simp at hi
          simp at hlt
          omega
      obtain ⟨h1, h2⟩ := done A a w c ρ hA h (fun i hi hL he => by
        have := (hready i).2 ⟨hi, hL, he⟩
        rw [hnil] at this; cases this)
      exact ⟨a, w, ρ, _, Steps.refl _ _, h1, h2⟩
    | some i =>
      simp only []
      rw [linearise_go_acc, List.reverse_singleton, List.singleton_append]
      obtain ⟨hin, hiL, hie⟩ := (hready i).1 (List.mem_of_getElem? hi)
      obtain ⟨a', w', c', ρ', hs, hI, hc'⟩ := h.pick hF hg hc hin hiL hie b k cs (Region.linearise.go .any C.ops fuel (t / (Region.ready .any C.ops A).length) (A.setIfInBounds i true) [])
      rw [← listed_set hA hin] at hI
      have hlt := left_set hA hin hiL
      obtain ⟨a'', w'', ρ'', L'', hs2, hI2, hall⟩ := ih (t / (Region.ready .any C.ops A).length) (A.setIfInBounds i true) a' w' c' ρ' (by simpa using hA) (by omega) hI hc'
      exact ⟨a'', w'', ρ'', L'', Steps.trans hs hs2, hI2, hall⟩

theorem left_all (n : Nat) : left (Array.replicate n false) n ≤ n := by
  unfold left
  exact Nat.le_trans (List.length_filter_le _ _) (by simp)

/-- **Regions whose order is drawn.** -/
theorem draw_ok {F : FuncId → Option AFunc} (hP : P.follows .mixedOrders = true) : DrawOK P mts F := by
  intro ex hF id ops l tm σ tm' σ' ρ w b a k cs hc hr ht hw hg
  simp only [compCode] at hc
  split at hc
  case h_2 => cases hc
  rename_i as has
  simp only [cond_true] at hc
  unfold compDraw at hc
  simp only at hc
  generalize hpl : orderOf as (Region.before ops) ((as.zipIdx.filter fun x => isAct x.1).map (·.2)) ((as.zipIdx.filter fun x => isAct x.1).map (·.2)) 0 = pl at hc
  cases hok : planOk ops as (Region.before ops) pl ops.size with
  | false => rw [hok] at hc; cases hc
  | true =>
    rw [hok] at hc
    simp only [cond_true, Option.map_eq_some_iff] at hc
    obtain ⟨dl, hdl, he⟩ := hc
    cases he
    have plan := plan_of hok
    obtain ⟨hlen, hspec⟩ := planOf_spec _ _ hdl
    obtain ⟨T', S, e1, e2, e3, e4, tr⟩ := trace_of _ _ _ _ _ hr
    have hll : l.length = ops.size := by rw [hlen, plan.len]
    let C : Ctx P mts F ex :=
      { ops, as, l := pl, nt := a.tmps.size, T', S, n := ops.size, before := Region.before ops, plan
        comp := fun i o ho => (compOpers_spec _ _ has).2 i o (by simpa using ho)
        run := fun p hp => by
          have hp' : p < pl.length := by rw [plan.len]; exact hp
          obtain ⟨d, h1, h2, _⟩ := hspec p pl[p].1 pl[p].2 (by simp [hp'])
          exact ⟨d.op, by simp only [ordAt, List.getElem?_eq_getElem hp']; exact h2, tr.run p d h1⟩
        agn := fun p hp e ag hl i hi => by
          obtain ⟨d, h1, _, h3⟩ := hspec p e ag hl
          obtain ⟨o, h4, h5⟩ := h3 i hi
          exact ⟨o, h4, again_ok (tr.agn p d h1) o h5⟩ }
    have hw1 : Step P mts ρ σ w ρ σ { w with drawn := w.drawn + 1 } := step_drawn hw _
    have hI0 : Inv C ρ { w with drawn := w.drawn + 1 } a.defers (isListed (Array.replicate ops.size false)) a { w with drawn := w.drawn + 1 } 0 ρ :=
      { clo := fun i hi hL => by simp [isListed, Array.getElem?_replicate] at hL; split at hL <;> cases hL
        cle := Nat.zero_le _
        acts := fun q hq => by omega
        un := fun q _ hq => by simp [isListed, Array.getElem?_replicate]; split <;> rfl
        st := by show Step P mts ρ (S 0) _ ρ (S 0) _; rw [e2]; exact .refl hw1.rel
        size := rfl
        defs := rfl
        wrote := fun q hq hL => by simp [isListed, Array.getElem?_replicate] at hL; split at hL <;> cases hL
        kept := fun t _ => by show VRel ρ (((T' 0).get t).getD undef) _; rw [e1]; exact ht t
        made := fun q hq => by omega
        mono := fun q hq => by omega
        fresh := fun q hq b hb => by
          have : q = 0 := by omega
          subst this
          have hb' : (S 0).next ≤ b := hb
          show (S 0).heap.get b = none
          rw [e2] at hb' ⊢
          exact hw.fresh b hb' }
    obtain ⟨c, hI, hc⟩ := Inv.advanceAll _ rfl hI0
    obtain ⟨a', w', ρ', L', hs, hI', hall⟩ := go_sound hF hg b k cs ops.size (w.tape w.drawn (.order b.fn id)) (Array.replicate ops.size false) a { w with drawn := w.drawn + 1 } c ρ (by simp [C]) (left_all _) hI hc
    have hn : S ops.size = σ' := by rw [← hll]; exact e4
    have hTn : T' ops.size = tm' := by rw [← hll]; exact e3
    refine ⟨ρ', w', a', ?_, ?_, hI'.size, hI'.defs, ?_⟩
    · refine Steps.trans (.one stepR_region_draw) (Steps.trans ?_ (.one (stepR_region_end (ops := ops))))
      simp only [Region.schedule, hP, Bool.true_or, if_true, Region.linearise]
      exact hs
    · intro t
      rw [← hTn]
      by_cases hex : ∃ p, p < ops.size ∧ dstOf as (ordAt pl p ops.size) = some t
      · obtain ⟨p, hp, hd⟩ := hex
        have hk : (T' ops.size).get t = (T' (p + 1)).get t := C.T_keep (p + 1) ops.size hp (Nat.le_refl _) (fun r h1 h2 e => by
          have hne : C.ord r ≠ C.ord p := fun e2 => by have := C.ordInj (p := r) (q := p) h2 hp e2; omega
          exact C.plan.one _ (C.ord_lt h2) _ (C.ord_lt hp) hne t e hd)
        rw [hk]
        exact hI'.wrote p hp (hall p hp) t hd
      · have hk : (T' ops.size).get t = (T' 0).get t := C.T_keep 0 ops.size (Nat.zero_le _) (Nat.le_refl _) (fun r _ h2 e => hex ⟨r, h2, e⟩)
        rw [hk]
        exact hI'.kept t fun q hq e => absurd ⟨q, hq, e⟩ hex
    · have hst : Step P mts ρ (S 0) _ ρ' (S ops.size) w' := hI'.st
      rw [e2, hn] at hst
      exact hw1.trans hst

end
end Go.AM
