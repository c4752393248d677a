/- Code: what the abstract machine runs, the model runs. Regions in the text's order, calls, code. -/
import Derived.Test.YtcclefkkjboaeaaGreatDoorASound
import Derived.RangeFuncIn

namespace Go.AM
open Go

section
variable {P : Program} {mts : List TypeId}

/-! ### Marks among the deferred calls -/

def markOf (r : Nat) : Deferred := { target := .collected r, args := #[] }

inductive Marks (ρ : Rho) (w : World) : List Deferred → Prop where
  | nil : Marks ρ w []
  | cons (r : Nat) (ds : List Deferred) : w.heap[r]? = some (.deferred (some [])) → (∀ b m, ρ b = some m → m.c ≠ r) → (∀ r', markOf r' ∈ ds → r' ≠ r) → Marks ρ w ds → Marks ρ w (markOf r :: ds)

theorem lt_of_get {w : World} {r : Nat} {o : Obj} (hr : w.heap[r]? = some o) : r < w.heap.size := by
  rcases Nat.lt_or_ge r w.heap.size with h1 | h1
  · exact h1
  · simp [Array.getElem?_eq_none h1] at hr

theorem Marks.step {ρ ρ' : Rho} {σ σ' : AW} {w w' : World} (h : Step P mts ρ σ w ρ' σ' w') {ds : List Deferred} (hm : Marks ρ w ds) : Marks ρ' w' ds := by
  induction hm with
  | nil => exact .nil
  | cons r ds hr hu hn _ ih =>
    have hlt := lt_of_get hr
    have hno : ¬ Owned ρ r := by rintro ⟨b, m, hb, hc, _⟩; exact hu b m hb hc
    refine .cons r ds (by rw [h.cframe r hlt hno]; exact hr) (fun b m hb => ?_) hn ih
    cases hb0 : ρ b with
    | some m0 =>
      have := h.le b m0 hb0
      rw [hb] at this; cases this
      exact hu b m hb0
    | none =>
      rcases h.own b m hb0 hb with h1 | ⟨b1, m1, h1, h2, _⟩
      · omega
      · rw [← h2]; exact hu b1 m1 h1

/-- Each of these marks is of a block made since. -/
def Since (n : Nat) (ms : List Deferred) : Prop := ∀ d ∈ ms, ∃ r, d = markOf r ∧ n ≤ r

theorem Since.append {n : Nat} {a b : List Deferred} (h : Since n a) (h' : Since n b) : Since n (a ++ b) := by
  intro d hd
  rcases List.mem_append.1 hd with hd | hd
  · exact h d hd
  · exact h' d hd

theorem Since.mono {n m : Nat} {a : List Deferred} (h : Since n a) (hm : m ≤ n) : Since m a := fun d hd =>
  let ⟨r, e, hr⟩ := h d hd; ⟨r, e, Nat.le_trans hm hr⟩

/-- The model's world changed where nothing of the abstract machine's stands. -/
theorem Step.touch {ρ ρ' : Rho} {σ σ' : AW} {w w' : World} (h : Step P mts ρ σ w ρ' σ' w') {r : Nat} (hr : w.heap.size ≤ r) (hu : ∀ b m, ρ' b = some m → m.c ≠ r) (o : Obj) :
    Step P mts ρ σ w ρ' σ' { w' with heap := w'.heap.setIfInBounds r o } := by
  refine { h with rel := ?_, size := by simpa using h.size, cframe := ?_, tape := h.tape, os := h.os, out := h.out }
  · refine { dom := fun b m e => by simpa using h.rel.dom b m e, obj := fun b m ao e e' => ?_, disj := h.rel.disj, fresh := h.rel.fresh }
    rw [Array.getElem?_setIfInBounds_ne (fun e1 => hu b m e e1.symm)]
    exact h.rel.obj b m ao e e'
  · intro c hc ho
    rw [Array.getElem?_setIfInBounds_ne (by omega)]
    exact h.cframe c hc ho

theorem step_take {fr : Frame} {cs : List Frame} {w : World} {r : Nat} {ds : List Deferred} (hm : fr.mode = .returning) (hd : fr.defers = markOf r :: ds) (hr : w.heap[r]? = some (.deferred (some []))) :
    step P (lone fr cs w) = .next (lone { fr with defers := ds } cs { w with heap := w.heap.setIfInBounds r (.deferred none) }) :=
  step_lone_go (by simp [stepG, unwind, hm, hd, markOf, Instr.takeDeferred, getObj, setObj, Sem.runT_eq, Sem.run, hr, bind, Sem.bind, pure])

theorem takes {ρ ρ' : Rho} {σ σ' : AW} {w₀ : World} : ∀ (ms : List Deferred) (fr : Frame) (cs : List Frame) (w : World), Step P mts ρ σ w₀ ρ' σ' w → Marks ρ' w ms → Since w₀.heap.size ms → fr.mode = .returning → fr.defers = ms →
    ∃ w', Steps P (lone fr cs w) (lone { fr with defers := [] } cs w') ∧ Step P mts ρ σ w₀ ρ' σ' w' := by
  intro ms
  induction ms with
  | nil =>
    intro fr cs w h _ _ hm hd
    refine ⟨w, ?_, h⟩
    have : ({ fr with defers := [] } : Frame) = fr := by cases fr; simp_all
    rw [this]; exact Steps.refl _ _
  | cons d ms ih =>
    intro fr cs w h hmk hs hm hd
    cases hmk with
    | cons r _ hr hu hn hmk' =>
      have hge : w₀.heap.size ≤ r := by
        obtain ⟨r', e, hr'⟩ := hs _ (List.mem_cons_self ..)
        simp only [markOf, Deferred.mk.injEq, Target.collected.injEq] at e
        omega
      have hst := h.touch hge hu (.deferred none)
      have hmk'' : Marks ρ' { w with heap := w.heap.setIfInBounds r (.deferred none) } ms := by
        clear ih hst hd hs
        induction hmk' with
        | nil => exact .nil
        | cons r2 ds hr2 hu2 hn2 _ ih2 =>
          refine .cons r2 ds ?_ hu2 hn2 (ih2 fun r' hr' => hn r' (List.mem_cons_of_mem _ hr'))
          simp only
          rw [Array.getElem?_setIfInBounds_ne (fun e => hn r2 (List.mem_cons_self ..) e.symm)]
          exact hr2
      obtain ⟨w', hsteps, hst'⟩ := ih { fr with defers := ms } cs _ hst hmk'' (fun d hd => hs d (List.mem_cons_of_mem _ hd)) hm rfl
      exact ⟨w', .head (step_take hm hd hr) hsteps, hst'⟩

/-! ### Temporaries -/

theorem TRel.put {ρ : Rho} {tm : T Value} {tmps : Array Value} (h : TRel ρ tm tmps) {d : Nat} (hd : d < tmps.size) {v v' : Value} (hv : VRel ρ v v') : TRel ρ (tm.set d v) (tmps.setIfInBounds d v') := by
  intro t
  rw [T.get_set]
  by_cases ht : t = d
  · subst ht
    simp [hd]
    exact hv
  · simp only [ht, if_false]
    have : (tmps.setIfInBounds d v').getD t undef = tmps.getD t undef := by
      simp [Array.getElem?_setIfInBounds_ne (fun e => ht e.symm)]
    rw [this]; exact h t

theorem TRel.putD {ρ : Rho} {tm : T Value} {a : Act} (h : TRel ρ tm a.tmps) {dst : Option Nat} (hd : ∀ d, dst = some d → d < a.tmps.size) {v v' : Value} (hv : VRel ρ v v') :
    TRel ρ (putD tm dst v) (a.put dst v').tmps := by
  cases dst with
  | none => exact h
  | some d => exact h.put (hd d rfl) hv

theorem put_size (a : Act) (dst : Option Nat) (v : Value) : (a.put dst v).tmps.size = a.tmps.size := by cases dst <;> simp [Act.put]
theorem put_defers (a : Act) (dst : Option Nat) (v : Value) : (a.put dst v).defers = a.defers := by cases dst <;> rfl

theorem bool_rel {ρ : Rho} {x y : Value} (h : VRel ρ x y) {b : Bool} : x = .bool b ↔ y = .bool b := by
  cases h <;> simp

/-- Whether an operation is asked for, on either side. -/
theorem wanted_rel {ρ : Rho} {tm : T Value} {tmps : Array Value} {ops : Array Oper} {o : Oper} {g : Option (Nat × Bool)} (hg : guardOf ops o.guard = some g)
    (h : ∀ t b, g = some (t, b) → VRel ρ ((tm.get t).getD undef) (tmps.getD t undef)) : Region.wanted o (yielded ops tmps) = wanted tm g := by
  unfold guardOf at hg
  unfold Region.wanted
  cases hog : o.guard with
  | none => rw [hog] at hg; cases hg; rfl
  | some p =>
    obtain ⟨j, want⟩ := p
    rw [hog] at hg
    simp only at hg ⊢
    split at hg
    · rename_i t ht
      cases hg
      have hr := h t want rfl
      simp only [yielded, ht, Option.bind_some, wanted]
      cases hm : tm.get t with
      | none =>
        rw [hm] at hr
        simp only [Option.getD_none] at hr
        cases hq : tmps[t]? with
        | none => rfl
        | some y =>
          simp only [Array.getD_eq_getD_getElem?, hq, Option.getD_some] at hr
          have : ∀ b, y ≠ .bool b := fun b e => by have := (bool_rel hr (b := b)).2 e; simp [undef] at this
          cases y <;> first | rfl | exact absurd rfl (this _)
      | some x =>
        rw [hm] at hr
        simp only [Option.getD_some] at hr
        cases hq : tmps[t]? with
        | none =>
          simp only [Array.getD_eq_getD_getElem?, hq, Option.getD_none] at hr
          have : ∀ b, x ≠ .bool b := fun b e => by have := (bool_rel hr (b := b)).1 e; simp [undef] at this
          cases x <;> first | rfl | exact absurd rfl (this _)
        | some y =>
          simp only [Array.getD_eq_getD_getElem?, hq, Option.getD_some] at hr
          cases hr <;> rfl
    · cases hg

/-! ### A region in the text's order -/

theorem compOper_spec {nt : Nat} {ops : Array Oper} {o : Oper} {ao : AOper} (h : compOper P mts nt ops o = some ao) :
    compOp P mts o.op = some ao.op ∧ guardOf ops o.guard = some ao.guard ∧ ao.dst = o.dst ∧ ∀ d, o.dst = some d → d < nt := by
  unfold compOper at h
  split at h
  · rename_i op g h1 h2
    split at h
    · rename_i hd
      cases h
      exact ⟨h1, h2, hd.symm, fun d e => by rw [hd] at e; cases e⟩
    · rename_i d hd
      cases hb : Nat.blt d nt with
      | false => rw [hb] at h; cases h
      | true =>
        rw [hb] at h; cases h
        refine ⟨h1, h2, hd.symm, fun d' e => ?_⟩
        rw [hd] at e; cases e
        exact Nat.blt_eq ▸ hb
  · cases h

theorem compOp_opds {op : Op} {ao : AOp} (h : compOp P mts op = some ao) : ∀ x ∈ op.operands.toList, opdOk x = true := by
  unfold compOp at h
  cases hb : op.operands.toList.all opdOk with
  | false => rw [hb] at h; cases h
  | true => intro x hx; exact List.all_eq_true.1 hb x hx

/-- One operation at its place, asked for or not. -/
theorem runOper_sound {F : FuncId → Option AFunc} {ex : Exec} (hF : FunsOK P mts F ex) {b : Frame} {k : List Item} {cs : List Frame} {ops : Array Oper} {i : Nat} {rest : List Nat} {o : Oper} {ao : AOper} {a : Act} {tm : T Value} {σ : AW}
    {tm' : T Value} {σ' : AW} {ρ : Rho} {w : World} (ho : ops[i]? = some o) (hc : compOper P mts a.tmps.size ops o = some ao) (hr : runOper F ex ao tm σ = some (tm', σ')) (ht : TRel ρ tm a.tmps) (hw : WRel P mts ρ σ w) (hg : GlobOK ρ) :
    ∃ ρ' w' a', Steps P (lone (b.atR a (.inRegion ops (i :: rest) :: k)) cs w) (lone (b.atR a' (.inRegion ops rest :: k)) cs w') ∧ TRel ρ' tm' a'.tmps ∧ a'.tmps.size = a.tmps.size ∧ a'.defers = a.defers ∧ Step P mts ρ σ w ρ' σ' w' := by
  obtain ⟨h1, h2, h3, h4⟩ := compOper_spec hc
  have hwt := wanted_rel h2 (fun t _ _ => ht t)
  unfold runOper at hr
  cases hb : wanted tm ao.guard with
  | false =>
    rw [hb] at hr hwt
    simp only [cond_false, Option.some.injEq, Prod.mk.injEq] at hr
    obtain ⟨rfl, rfl⟩ := hr
    refine ⟨ρ, w, a.put o.dst undef, .one ?_, ?_, put_size .., put_defers .., .refl hw⟩
    · have := stepR_op_skip (P := P) (b := b) (a := a) (k := k) (cs := cs) (w := w) (ops := ops) (i := i) (rest := rest) (by simp [ho, hwt])
      simpa [ho] using this
    · rw [h3]; exact ht.putD h4 (undef_rel ρ)
  | true =>
    rw [hb] at hr hwt
    simp only [cond_true] at hr
    split at hr
    · rename_i v σ₂ hop
      simp only [Option.some.injEq, Prod.mk.injEq] at hr
      obtain ⟨rfl, rfl⟩ := hr
      obtain ⟨ρ', v', w', hs, hv, hst⟩ := oper_step hF (b := b) (k := k) (cs := cs) (rest := rest) ho hwt h1 hw hg (fun x hx => ev_rel hg ht (compOp_opds h1 x hx)) hop
      refine ⟨ρ', w', _, hs, ?_, put_size .., put_defers .., hst⟩
      rw [h3]; exact (ht.mono hst.le).putD h4 hv
    · cases hr

theorem runOps_sound {F : FuncId → Option AFunc} {ex : Exec} (hF : FunsOK P mts F ex) {b : Frame} {k : List Item} {cs : List Frame} {ops : Array Oper} :
    ∀ (l : List Oper) (as : List AOper) (j : Nat) (a : Act) (tm : T Value) (σ : AW) (tm' : T Value) (σ' : AW) (ρ : Rho) (w : World), compOpers P mts a.tmps.size ops l = some as →
      (∀ (q : Nat) (o : Oper), l[q]? = some o → ops[j + q]? = some o) →
      runOps F ex as tm σ = some (tm', σ') → TRel ρ tm a.tmps → WRel P mts ρ σ w → GlobOK ρ →
      ∃ ρ' w' a', Steps P (lone (b.atR a (.inRegion ops (List.range' j l.length) :: k)) cs w) (lone (b.atR a' (.inRegion ops [] :: k)) cs w') ∧ TRel ρ' tm' a'.tmps ∧ a'.tmps.size = a.tmps.size ∧ a'.defers = a.defers ∧ Step P mts ρ σ w ρ' σ' w' := by
  intro l
  induction l with
  | nil =>
    intro as j a tm σ tm' σ' ρ w hc _ hr ht hw hg
    simp only [compOpers, Option.some.injEq] at hc
    subst hc
    simp only [runOps, Option.some.injEq, Prod.mk.injEq] at hr
    obtain ⟨rfl, rfl⟩ := hr
    exact ⟨ρ, w, a, Steps.refl _ _, ht, rfl, rfl, .refl hw⟩
  | cons o l ih =>
    intro as j a tm σ tm' σ' ρ w hc hops hr ht hw hg
    simp only [compOpers] at hc
    split at hc
    · rename_i ao as' h1 h2
      cases hc
      simp only [runOps] at hr
      split at hr
      · rename_i tm₁ σ₁ hro
        obtain ⟨ρ₁, w₁, a₁, hs₁, ht₁, hz₁, hd₁, hst₁⟩ := runOper_sound hF (b := b) (k := k) (cs := cs) (rest := List.range' (j + 1) l.length) (hops 0 o rfl) h1 hro ht hw hg
        rw [← hz₁] at h2
        obtain ⟨ρ₂, w₂, a₂, hs₂, ht₂, hz₂, hd₂, hst₂⟩ := ih as' (j + 1) a₁ tm₁ σ₁ tm' σ' ρ₁ w₁ h2 (fun q o hq => by rw [show j + 1 + q = j + (q + 1) by omega]; exact hops (q + 1) o hq) hr ht₁ hst₁.rel (hg.mono hst₁.le)
        exact ⟨ρ₂, w₂, a₂, Steps.trans hs₁ hs₂, ht₂, hz₂.trans hz₁, hd₂.trans hd₁, hst₁.trans hst₂⟩
      · cases hr
    · cases hc

/-! ### Where code lands -/

def Lands (P : Program) (m : Machine) (b : Frame) (k : List Item) (cs : List Frame) (a : Act) (w : World) : AExit → Prop
  | .normal => Steps P m (lone (b.atR a k) cs w)
  | .exit id => ∃ k', exitTo id k' = exitTo id k ∧ Steps P m (lone (b.atR a (.code (.exit id) :: k')) cs w)
  | .ret => ∃ k', Steps P m (lone (b.atR a (.code .ret :: k')) cs w)

theorem Lands.of_steps {m m₁ : Machine} {b : Frame} {k : List Item} {cs : List Frame} {a : Act} {w : World} {e : AExit} (h : Steps P m m₁) (h' : Lands P m₁ b k cs a w e) : Lands P m b k cs a w e := by
  cases e with
  | normal => exact Steps.trans h h'
  | exit id => obtain ⟨k', e, h'⟩ := h'; exact ⟨k', e, Steps.trans h h'⟩
  | ret => obtain ⟨k', h'⟩ := h'; exact ⟨k', Steps.trans h h'⟩

variable (P mts)

/-- What a run of code comes to, beside the abstract machine's. -/
def Ran (ρ : Rho) (σ : AW) (w : World) (b : Frame) (a : Act) (m : Machine) (k : List Item) (cs : List Frame) (e : AExit) (tm' : T Value) (σ' : AW) : Prop :=
  ∃ ρ' w' a' ms, TRel ρ' tm' a'.tmps ∧ a'.tmps.size = a.tmps.size ∧ Step P mts ρ σ w ρ' σ' w' ∧ a'.defers = ms ++ a.defers ∧ Since w.heap.size ms ∧ Marks ρ' w' a'.defers ∧
    Lands P m b k cs a' w' e

def CodeOK (ex : Exec) : Prop :=
  ∀ (mc : Code) (c : ACode) (tm : T Value) (σ : AW) (e : AExit) (tm' : T Value) (σ' : AW) (ρ : Rho) (w : World) (b : Frame) (a : Act) (k : List Item) (cs : List Frame),
    b.roundOf = none → compCode P mts a.tmps.size mc = some c → ex c tm σ = some (e, tm', σ') → TRel ρ tm a.tmps → WRel P mts ρ σ w → GlobOK ρ → Marks ρ w a.defers →
      Ran P mts ρ σ w b a (lone (b.atR a (.code mc :: k)) cs w) k cs e tm' σ'

def TableOK (F : FuncId → Option AFunc) : Prop := ∀ f af, F f = some af → ∃ fn, P.funcs[f]? = some fn ∧ compFunc P mts fn = some af

variable {P mts}

/-! ### What a function gives -/

theorem results_sound {ρ : Rho} {σ : AW} {w : World} (hw : WRel P mts ρ σ w) {tm : T Value} {tmps : Array Value} (ht : TRel ρ tm tmps) {nt : Nat} :
    ∀ (rs : List ResultVar) (as : List AResult) (vs : List Value), compResults P nt rs = some as → aResults tm σ as = some vs →
      ∃ vs' : List Value, (rs.mapM (fun r : ResultVar => match r with | .tmp t => (pure (tmps.getD t undef) : Sem Value) | .cell a t => do loadVar t (← asAddr (tmps.getD a undef)))).run P w = .ok vs' w ∧ LRel ρ vs vs' := by
  intro rs
  induction rs with
  | nil =>
    intro as vs hc hr
    simp only [compResults, Option.some.injEq] at hc; subst hc
    simp only [aResults, Option.some.injEq] at hr; subst hr
    exact ⟨[], by simp, .nil ρ⟩
  | cons r rs ih =>
    intro as vs hc hr
    simp only [compResults] at hc
    split at hc
    · rename_i ar as' h1 h2
      cases hc
      simp only [aResults] at hr
      split at hr
      · rename_i v vs' h3 h4
        cases hr
        obtain ⟨us, hrun, hl⟩ := ih as' vs' h2 h4
        have one : ∃ u, (match r with | .tmp t => (pure (tmps.getD t undef) : Sem Value) | .cell a t => do loadVar t (← asAddr (tmps.getD a undef))).run P w = .ok u w ∧ VRel ρ v u := by
          cases r with
          | tmp t =>
            simp only [compResult] at h1
            cases hb : Nat.blt t nt with
            | false => rw [hb] at h1; cases h1
            | true =>
              rw [hb] at h1; cases h1
              simp only [aResult, Option.some.injEq] at h3
              subst h3
              exact ⟨_, by simp, ht t⟩
          | cell c t =>
            simp only [compResult] at h1
            cases hb : Nat.blt c nt with
            | false => rw [hb] at h1; cases h1
            | true =>
              rw [hb] at h1
              simp only [cond_true] at h1
              have hct := ht c
              split at h1
              · rename_i n hag hsz
                cases h1
                simp only [aResult] at h3
                split at h3
                · rename_i p hp
                  simp only [Option.map_eq_some_iff] at h3
                  obtain ⟨cs, hld, rfl⟩ := h3
                  rw [hp] at hct
                  obtain ⟨p', hp', had⟩ := ptr_inv hct
                  obtain ⟨cs', hrl, hlr⟩ := run_loadCells hw had hld
                  exact ⟨.agg cs', by simp only [hp']; simp [asAddr, loadVar, run_aggT hag, run_sizeT hsz, hrl], hlr.agg⟩
                · cases h3
              · rename_i hag
                cases h1
                simp only [aResult] at h3
                split at h3
                · rename_i p hp
                  split at h3
                  · rename_i x hld
                    cases h3
                    rw [hp] at hct
                    obtain ⟨p', hp', had⟩ := ptr_inv hct
                    obtain ⟨_, c, el, z, ro, hgc, _, hi⟩ := loadN_spec hld
                    obtain ⟨y, hy, hrel⟩ := had.cell hw hgc (i := 0) (x := v) (by rw [← hi 0 (by omega)]; rfl)
                    rw [add_zero_ad p'] at hy
                    exact ⟨y, by simp only [hp']; simp [asAddr, loadVar, run_aggT hag, hy], hrel⟩
                  · cases h3
                · cases h3
              · cases h1
        obtain ⟨u, hu, hv⟩ := one
        refine ⟨u :: us, ?_, .cons hv hl⟩
        simp only [List.mapM_cons, Sem.run_bind, hu, Result.andThen_ok, hrun]
        simp
      · cases hr
    · cases hc

theorem packed_rel {ρ : Rho} {vs : List Value} {us : Array Value} (h : LRel ρ vs us.toList) : VRel ρ (packed vs) (if h : us.size = 1 then us[0] else .tuple us) := by
  have hlen : vs.length = us.size := by simpa using h.1
  cases vs with
  | nil =>
    rw [dif_neg (by simp at hlen; omega)]
    exact h.tuple
  | cons v l =>
    cases l with
    | nil =>
      have h1 : us.size = 1 := by simpa using hlen.symm
      rw [dif_pos h1]
      exact h.2 0 v _ rfl (by simp [h1])
    | cons v2 l =>
      rw [dif_neg (by simp at hlen; omega)]
      exact h.tuple

theorem run_results {ρ : Rho} {σ : AW} {w : World} (hw : WRel P mts ρ σ w) {tm : T Value} {tmps : Array Value} (ht : TRel ρ tm tmps) {fn : Func} {nt : Nat} {as : List AResult} {vs : List Value}
    (hc : compResults P nt fn.results.toList = some as) (hr : aResults tm σ as = some vs) : ∃ v', (results fn tmps).run P w = .ok v' w ∧ VRel ρ (packed vs) v' := by
  obtain ⟨us, hrun, hl⟩ := results_sound hw ht _ _ _ hc hr
  refine ⟨_, ?_, packed_rel (us := us.toArray) (by simpa using hl)⟩
  unfold results
  rw [Array.mapM_eq_mapM_toList]
  simp only [Sem.run_bind, Sem.run_map, Sem.run_pure]
  exact congrArg (fun r => Result.andThen (Result.andThen r _) _) hrun

/-! ### Calls -/

theorem args_rel {ρ : Rho} : ∀ (l l' : List Value) (j : Nat) (tm : T Value) (n : Nat) (tmps : Array Value), LRel ρ l l' → j + l.length ≤ n → tmps.size = n →
    (∀ t, t < j ∨ j + l.length ≤ t → VRel ρ ((tm.get t).getD undef) (tmps.getD t undef)) → (∀ q y, l'[q]? = some y → tmps[j + q]? = some y) → TRel ρ (argsOf l j tm) tmps := by
  intro l
  induction l with
  | nil => intro l' j tm n tmps _ _ _ h _ t; exact h t (by simp; omega)
  | cons v l ih =>
    intro l' j tm n tmps hl hn hs h hq
    obtain ⟨v', m, rfl, hv, hm⟩ := hl.uncons
    simp only [List.length_cons] at hn h
    refine ih m (j + 1) (tm.set j v) n tmps hm (by omega) hs (fun t ht => ?_) (fun q y hy => ?_)
    · rw [T.get_set]
      by_cases e : t = j
      · subst e
        have := hq 0 v' rfl
        simp only [Nat.add_zero] at this
        simp [this]
        exact hv
      · simp only [e, if_false]
        exact h t (by omega)
    · rw [show j + 1 + q = j + (q + 1) by omega]
      exact hq (q + 1) y (by simpa using hy)

theorem funs_ok {F : FuncId → Option AFunc} (hT : TableOK P mts F) {ex : Exec} (hC : CodeOK P mts ex) : FunsOK P mts F ex := by
  intro f args σ v σ' hr
  unfold callF at hr
  split at hr
  · cases hr
  · rename_i af haf
    obtain ⟨fn, hfn, hcf⟩ := hT f af haf
    unfold compFunc at hcf
    split at hcf
    case h_2 => cases hcf
    rename_i body hbody
    cases hname : (fn.name != "runtime.NumGoroutine") with
    | false => rw [hname] at hcf; cases hcf
    | true =>
      rw [hname] at hcf
      simp only [cond_true] at hcf
      refine ⟨⟨fn, body, hfn, hbody, hname⟩, ?_⟩
      split at hcf
      case h_2 => cases hcf
      rename_i c rs hcode hres
      cases hcf
      simp only at hr
      intro ρ w args' hl hw hg
      have hlen : args.length = args'.size := by simpa using hl.1
      cases hble : Nat.ble args.length fn.ntmps with
      | false => rw [hble] at hr; cases hr
      | true =>
        rw [hble] at hr
        simp only [cond_true] at hr
        have hle : args.length ≤ fn.ntmps := Nat.le_of_ble_eq_true hble
        intro cs
        have henter : Frame.enter P f args' .normal = ({ fn := f, tmps := #[], todo := [], defers := [], mode := .run, kind := .normal } : Frame).atR { tmps := args' ++ Array.replicate (fn.ntmps - args'.size) undef, defers := [] } [.code body] := by
          simp [Frame.enter, Frame.atR, hfn, hbody]
        have hsize : (args' ++ Array.replicate (fn.ntmps - args'.size) undef).size = fn.ntmps := by simp; omega
        have hT0 : TRel ρ (argsOf args 0 .leaf) (args' ++ Array.replicate (fn.ntmps - args'.size) undef) := by
          refine args_rel args args'.toList 0 .leaf fn.ntmps _ hl (by omega) hsize (fun t ht => ?_) (fun q y hy => ?_)
          · have : (args' ++ Array.replicate (fn.ntmps - args'.size) undef).getD t undef = undef := by
              simp only [Array.getD_eq_getD_getElem?]
              rw [Array.getElem?_append_right (by omega)]
              simp only [Array.getElem?_replicate]
              split <;> rfl
            rw [this]
            simp [T.get]
            exact undef_rel ρ
          · simp only [Nat.zero_add]
            have hq : q < args'.size := by simpa using (List.getElem?_eq_some_iff.1 hy).1
            rw [Array.getElem?_append_left hq]
            simpa using hy
        have go : ∀ e tm σ₁, ex c (argsOf args 0 .leaf) σ = some (e, tm, σ₁) → (e = .ret ∨ e = .normal) → (aResults tm σ₁ rs).map (fun vs => (packed vs, σ₁)) = some (v, σ') →
            ∃ e w' fr, (fun e w' => ∃ ρ' v', e = Ending.returned v' ∧ VRel ρ' v v' ∧ Step P mts ρ σ w ρ' σ' w') e w' ∧ Comes P (lone (Frame.enter P f args' .normal) cs w) (lone fr cs w') e ∧ fr.fn = f ∧ fr.leaving P w' e := by
          intro e tm σ₁ hex he hv
          simp only [Option.map_eq_some_iff, Prod.mk.injEq] at hv
          obtain ⟨vs, hvs, rfl, rfl⟩ := hv
          obtain ⟨ρ', w', a', ms, ht', hz', hst, hdef, hsince, hmarks, hlands⟩ := hC body c _ σ e tm σ₁ ρ w { fn := f, tmps := #[], todo := [], defers := [], mode := .run, kind := .normal }
            { tmps := args' ++ Array.replicate (fn.ntmps - args'.size) undef, defers := [] } [] cs rfl (by simpa only [hsize] using hcode) hex hT0 hw hg .nil
          rw [← henter] at hlands
          simp only [List.append_nil] at hdef
          rw [hdef] at hmarks
          have hret : ∃ fr, fr.mode = .returning ∧ fr.defers = ms ∧ fr.kind = .normal ∧ fr.fn = f ∧ fr.tmps = a'.tmps ∧ Steps P (lone (Frame.enter P f args' .normal) cs w) (lone fr cs w') := by
            rcases he with rfl | rfl
            · obtain ⟨k', hs⟩ := hlands
              exact ⟨_, rfl, hdef, rfl, rfl, rfl, Steps.trans hs (.one (stepR_ret rfl))⟩
            · exact ⟨_, rfl, hdef, rfl, rfl, rfl, Steps.trans hlands (.one (stepR_end rfl))⟩
          obtain ⟨fr, hm, hd, hk, hfn', htm, hs⟩ := hret
          obtain ⟨w'', hs2, hst2⟩ := takes ms fr cs w' hst hmarks hsince hm hd
          obtain ⟨v', hrv, hvr⟩ := run_results hst2.rel ht' hres hvs
          refine ⟨.returned v', w'', { fr with defers := [] }, ⟨ρ', v', rfl, hvr, hst2⟩, Steps.trans hs hs2, hfn', hm, rfl, hk, fn, ?_, ?_⟩
          · rw [hfn']; exact hfn
          · simp only [htm]; exact hrv
        split at hr
        · rename_i tm σ₁ hex
          exact go _ _ _ hex (.inl rfl) hr
        · rename_i tm σ₁ hex
          exact go _ _ _ hex (.inr rfl) hr
        · cases hr

end
end Go.AM
