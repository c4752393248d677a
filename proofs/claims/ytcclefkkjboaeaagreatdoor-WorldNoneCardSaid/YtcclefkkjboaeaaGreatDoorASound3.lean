/- Code: what the abstract machine runs, the model runs. The whole. -/
import Derived.Test.YtcclefkkjboaeaaGreatDoorASound2

namespace Go.AM
open Go

section
variable {P : Program} {mts : List TypeId}

/-- Regions whose order is drawn. -/
def DrawOK (P : Program) (mts : List TypeId) (F : FuncId → Option AFunc) : Prop :=
  ∀ (ex : Exec), FunsOK P mts F ex → ∀ (id : Nat) (ops : Array Oper) (l : List DOper) (tm : T Value) (σ : AW) (tm' : T Value) (σ' : AW) (ρ : Rho) (w : World) (b : Frame) (a : Act) (k : List Item) (cs : List Frame),
    compCode P mts a.tmps.size (.region id ops true) = some (.draw l) → runDraw F ex l tm σ = some (tm', σ') → TRel ρ tm a.tmps → WRel P mts ρ σ w → GlobOK ρ →
    ∃ ρ' w' a', Steps P (lone (b.atR a (.code (.region id ops true) :: k)) cs w) (lone (b.atR a' k) cs w') ∧ TRel ρ' tm' a'.tmps ∧ a'.tmps.size = a.tmps.size ∧ a'.defers = a.defers ∧ Step P mts ρ σ w ρ' σ' w'

section moves
variable {b : Frame} {a : Act} {k : List Item} {cs : List Frame} {w : World}
theorem stepR_scope {c : Code} : step P (lone (b.atR a (.code (.scope c) :: k)) cs w) = .next (lone (b.atR a (.code c :: .inScope c :: k)) cs w) :=
  step_lone_go (by simp [stepG, stepG.exec, Frame.atR])
theorem stepR_inScope {c : Code} : step P (lone (b.atR a (.inScope c :: k)) cs w) = .next (lone (b.atR a k) cs w) :=
  step_lone_go (by simp [stepG, stepG.exec, Frame.atR])
end moves

theorem Steps.tail {m m₁ m' : Machine} (h : Steps P m m') (hs : step P m = .next m₁) (hne : m ≠ m') : Steps P m₁ m' := by
  obtain ⟨n, hn⟩ := h
  cases n with
  | zero => simp only [runN] at hn; cases hn; exact absurd rfl hne
  | succ n => simp only [runN, hs] at hn; exact ⟨n, hn⟩

theorem lone_ne {b : Frame} {a a' : Act} {k k' : List Item} {cs : List Frame} {w w' : World} (h : k ≠ k') : lone (b.atR a k) cs w ≠ lone (b.atR a' k') cs w' := by
  intro e
  have : ((lone (b.atR a k) cs w).gs[0]?).map (fun g => g.frame.todo) = ((lone (b.atR a' k') cs w').gs[0]?).map (fun g => g.frame.todo) := by rw [e]
  simp [lone, Frame.atR] at this
  exact h this

theorem Ran.of_steps {ρ : Rho} {σ : AW} {w : World} {b : Frame} {a : Act} {m m₁ : Machine} {k : List Item} {cs : List Frame} {e : AExit} {tm' : T Value} {σ' : AW} (h : Steps P m m₁)
    (h' : Ran P mts ρ σ w b a m₁ k cs e tm' σ') : Ran P mts ρ σ w b a m k cs e tm' σ' := by
  obtain ⟨ρ', w', a', ms, h1, h2, h3, h4, h5, h6, h7⟩ := h'
  exact ⟨ρ', w', a', ms, h1, h2, h3, h4, h5, h6, h7.of_steps h⟩

/-- One run behind another. -/
theorem Ran.then {ρ ρ₁ : Rho} {σ σ₁ : AW} {w w₁ : World} {b : Frame} {a a₁ : Act} {m : Machine} {k : List Item} {cs : List Frame} {e : AExit} {tm' : T Value} {σ' : AW} {ms : List Deferred}
    (hst : Step P mts ρ σ w ρ₁ σ₁ w₁) (hz : a₁.tmps.size = a.tmps.size) (hd : a₁.defers = ms ++ a.defers) (hs : Since w.heap.size ms)
    (h' : Ran P mts ρ₁ σ₁ w₁ b a₁ m k cs e tm' σ') : Ran P mts ρ σ w b a m k cs e tm' σ' := by
  obtain ⟨ρ', w', a', ms', h1, h2, h3, h4, h5, h6, h7⟩ := h'
  refine ⟨ρ', w', a', ms' ++ ms, h1, h2.trans hz, hst.trans h3, by rw [h4, hd, List.append_assoc], .append (h5.mono hst.size) hs, h6, h7⟩

theorem Ran.done {ρ ρ' : Rho} {σ σ' : AW} {w w' : World} {b : Frame} {a a' : Act} {m : Machine} {k : List Item} {cs : List Frame} {e : AExit} {tm' : T Value}
    (hm : Marks ρ w a.defers) (hst : Step P mts ρ σ w ρ' σ' w') (ht : TRel ρ' tm' a'.tmps) (hz : a'.tmps.size = a.tmps.size) (hd : a'.defers = a.defers) (hl : Lands P m b k cs a' w' e) : Ran P mts ρ σ w b a m k cs e tm' σ' :=
  ⟨ρ', w', a', [], ht, hz, hst, by simpa using hd, fun d h => by simp at h, by rw [hd]; exact hm.step hst, hl⟩

theorem exitTo_skip {id : Nat} {x : Item} {k : List Item} (h : ∀ i, x ≠ .inBlock i) : exitTo id (x :: k) = exitTo id k := by
  cases x <;> first | rfl | exact absurd rfl (h _)

theorem step_pushC {ρ : Rho} {σ : AW} {w : World} (h : WRel P mts ρ σ w) (o : Obj) : Step P mts ρ σ w ρ σ { w with heap := w.heap.push o } := by
  refine { Step.refl h with rel := ?_, size := by simp, cframe := ?_ }
  · refine { dom := fun b m e => ?_, obj := fun b m ao e e' => ?_, disj := h.disj, fresh := h.fresh }
    · have := h.dom b m e; simp; omega
    · have hd := (h.dom b m e).2
      have := h.obj b m ao e e'
      rwa [Array.getElem?_push_lt hd, ← Array.getElem?_eq_getElem hd]
  · intro c hc _
    rw [Array.getElem?_push_lt hc, ← Array.getElem?_eq_getElem hc]

theorem rangeFunc_ok {F : FuncId → Option AFunc} {ex : Exec} (hF : FunsOK P mts F ex) {f : Operand} {params : Array Nat} {assign body : Code} {c : ACode} {tm : T Value} {σ : AW} {e : AExit} {tm' : T Value} {σ' : AW} {ρ : Rho} {w : World}
    {b : Frame} {a : Act} {k : List Item} {cs : List Frame} (hb : b.roundOf = none) (hc : compCode P mts a.tmps.size (.rangeFunc f params assign body) = some c) (hr : execStep F ex c tm σ = some (e, tm', σ'))
    (ht : TRel ρ tm a.tmps) (hw : WRel P mts ρ σ w) (hg : GlobOK ρ) (hm : Marks ρ w a.defers) :
    Ran P mts ρ σ w b a (lone (b.atR a (.code (.rangeFunc f params assign body) :: k)) cs w) k cs e tm' σ' := by
  simp only [compCode] at hc
  cases hok : (opdOk f && params.toList.all (Nat.blt · a.tmps.size)) with
  | false => rw [hok] at hc; cases hc
  | true =>
    rw [hok] at hc
    simp only [cond_true] at hc
    simp only [Bool.and_eq_true] at hok
    split at hc
    case h_2 => cases hc
    rename_i ca cb hca hcb
    cases hc
    simp only [execStep] at hr
    split at hr
    case h_2 => cases hr
    rename_i v₂ σ₂ hcall
    split at hr
    case h_2 => cases hr
    rename_i L hL
    -- the block for the marks, and the loop's record
    have hs1 := step_pushC hw (.deferred (some []))
    have hm1 := hm.step hs1
    let bm : BM := ⟨w.heap.size + 1, 0, 1, 1, 0, false⟩
    let AL : ALoop := { state := .ready, pending := none, tmps := tm, params := params.toList, assign := ca, body := cb }
    let CL : Loop := { state := .ready, pending := none, fn := b.fn, tmps := a.tmps, params, assign, body, defers := w.heap.size }
    have hn : ρ σ.next = none := hw.none_of_le (Nat.le_refl _)
    have hs2 : Step P mts ρ σ { w with heap := w.heap.push (.deferred (some [])) } (ρ.with σ.next bm) (σ.push (.loop AL)) { w with heap := (w.heap.push (.deferred (some []))).push (.loop CL) } := by
      refine step_push hs1.rel _ _ bm (by simp [bm]) ⟨rfl, rfl, rfl, CL, rfl, ?_⟩
      refine { state := rfl, pend := trivial, tmps := ht.mono (Rho.with_le hn), params := rfl, below := fun p hp => ?_, assign := hca, body := hcb }
      exact Nat.blt_eq ▸ List.all_eq_true.1 hok.2 p hp
    have hst := hs1.trans hs2
    have hbm : (ρ.with σ.next bm) σ.next = some bm := Rho.with_same ..
    have hg2 := hg.mono hst.le
    have ht2 := ht.mono hst.le
    have hfr := ev_rel (a := a) hg2 ht2 hok.1
    have hmark : Marks (ρ.with σ.next bm) { w with heap := (w.heap.push (.deferred (some []))).push (.loop CL) } (markOf w.heap.size :: a.defers) := by
      refine .cons _ _ ?_ (fun b' m' e' => ?_) (fun r' hr' => ?_) (hm.step hst)
      · simp only
        rw [Array.getElem?_push_lt (by simp)]
        simp
      · unfold Rho.with at e'
        split at e'
        · cases e'; simp [bm]
        · have := (hw.dom b' m' e').2; omega
      · have : ∀ ds, Marks ρ w ds → markOf r' ∈ ds → r' < w.heap.size := by
          intro ds hmd
          induction hmd with
          | nil => intro h; simp at h
          | cons r ds h1 _ _ _ ih =>
            intro h
            rcases List.mem_cons.1 h with h | h
            · simp only [markOf, Deferred.mk.injEq, Target.collected.injEq] at h
              rw [h.1]; exact lt_of_get h1
            · exact ih h
        have := this _ hm hr'
        omega
    generalize hx : aev tm f = x at hcall hfr
    generalize hy : a.eval f = y at hfr
    cases hfr with
    | func g fst capt fst' capt' h1 h2 h3 h4 =>
      simp only [callV] at hcall
      obtain ⟨hbody, hok2⟩ := hF _ _ _ _ _ hcall
      have hyield : VRel (ρ.with σ.next bm) (.func (.yield σ.next) #[] #[]) (.func (.yield (w.heap.size + 1)) #[] #[]) := .yield _ _ hbm
      have hargs : LRel (ρ.with σ.next bm) (fst.toList ++ [.func (.yield σ.next) #[] #[]] ++ capt.toList) (fst' ++ #[Value.func (.yield (w.heap.size + 1)) #[] #[]] ++ capt').toList := by
        simp only [Array.toList_append]
        exact ((LRel.of_arrays h1 h2).append (.cons hyield (.nil _))).append (LRel.of_arrays h3 h4)
      obtain ⟨e', w₃, fr, hR, hsteps, _, hleave⟩ := hok2 _ _ _ hargs hst.rel hg2 (b.atR { a with defers := markOf w.heap.size :: a.defers } (.inRangeFunc (w.heap.size + 1) :: k) :: cs)
      obtain ⟨ρ₃, v', rfl, _, hst3⟩ := hR
      have henter := stepR_rangeFunc (P := P) (b := b) (a := a) (k := k) (cs := cs) (w := w) (g := f) (ps := params) (assign := assign) (body := body) (l := w.heap.size + 1) (mark := [markOf w.heap.size])
        (w₁ := { w with heap := (w.heap.push (.deferred (some []))).push (.loop CL) }) (w₁' := { w with heap := (w.heap.push (.deferred (some []))).push (.loop CL) }) (w₂ := { w with heap := (w.heap.push (.deferred (some []))).push (.loop CL) })
        (d := { target := .fn (.func g) capt', args := fst' ++ #[Value.func (.yield (w.heap.size + 1)) #[] #[]] }) (f := g) (args := fst' ++ #[Value.func (.yield (w.heap.size + 1)) #[] #[]] ++ capt')
        (by simp [Instr.enterLoop, hb, CL, markOf]; rfl) (by
          have hev : a.eval (.const (.func (.yield (w.heap.size + 1)) #[] #[])) = .func (.yield (w.heap.size + 1)) #[] #[] := rfl
          simp [resolve, rangeCall, hy, Deferred.ofValue, hev]) (by simp [invoke, run_callFunc hbody])
      have hret : step P (lone fr (b.atR { a with defers := markOf w.heap.size :: a.defers } (.inRangeFunc (w.heap.size + 1) :: k) :: cs) w₃) =
          .next (lone (b.atR { a with defers := markOf w.heap.size :: a.defers } (.endRangeFunc (w.heap.size + 1) :: k)) cs w₃) := by
        rw [← finish_atR_inRangeFunc (w.heap.size + 1) v']; exact step_leave_returned hleave
      have hbm3 : ρ₃ σ.next = some bm := hst3.le _ _ hbm
      obtain ⟨o1, o2, o3, l, hl, hlr⟩ := hst3.rel.obj _ _ _ hbm3 hL
      simp only [bm] at hl
      have hl2 : w₃.heap[w.heap.size + 1]? = some (.loop l) := hl
      -- the end of the loop
      have fin : L.state ≠ .busy → L.pending = none → e = .normal → tm' = tm → σ' = σ₂.upd σ.next (.loop { L with state := .exhausted }) →
          Ran P mts ρ σ w b a (lone (b.atR a (.code (.rangeFunc f params assign body) :: k)) cs w) k cs e tm' σ' := by
        intro hbusy hpend he htm hσ
        subst he htm hσ
        have hlb : (l.state == LoopState.busy) = false := by
          rw [← hlr.state]
          cases hls : L.state <;> first | rfl | exact absurd hls hbusy
        have hlp : l.pending = none := by
          have := hlr.pend
          rw [hpend] at this
          cases hp : l.pending with
          | none => rfl
          | some c => rw [hp] at this; exact this.elim
        have hend : (Instr.endLoop (w.heap.size + 1)).run P w₃ = .ok none { w₃ with heap := w₃.heap.setIfInBounds (w.heap.size + 1) (.loop { l with state := .exhausted }) } := by
          have hlb' : ¬ l.state = LoopState.busy := by
            intro h; rw [h] at hlb; cases hlb
          simp [Instr.endLoop, Instr.getLoop, getObj, setObj, Sem.run, bind, Sem.bind, hl2, hlb', hlp, pure]
        have hst4 : Step P mts ρ₃ σ₂ w₃ ρ₃ (σ₂.upd σ.next (.loop { L with state := .exhausted })) { w₃ with heap := w₃.heap.setIfInBounds (w.heap.size + 1) (.loop { l with state := .exhausted }) } :=
          step_setObj hst3.rel hbm3 hL (by simp) o1 o2 o3 hl (by simp) _ _ ⟨o1, o2, o3, _, rfl, { hlr with state := rfl }⟩
        have hall := hst.trans (hst3.trans hst4)
        refine ⟨ρ₃, _, { a with defers := markOf w.heap.size :: a.defers }, [markOf w.heap.size], ht.mono hall.le, rfl, hall, rfl, ?_, (hmark.step hst3).step hst4, ?_⟩
        · intro d hd
          simp only [List.mem_singleton] at hd
          exact ⟨_, hd, Nat.le_refl _⟩
        · refine Steps.trans (.one henter) (Steps.trans hsteps (Steps.trans (.one hret) (.one ?_)))
          have := stepR_endRangeFunc (P := P) (b := b) (a := { a with defers := markOf w.heap.size :: a.defers }) (k := k) (cs := cs) hend
          simpa using this
      split at hr
      · cases hr
      · rename_i hbusy
        split at hr
        · rename_i hpend
          simp only [Option.some.injEq, Prod.mk.injEq] at hr
          obtain ⟨r1, r2, r3⟩ := hr
          exact fin (fun e => hbusy e) hpend r1.symm r2.symm r3.symm
        · cases hr
    | _ => simp [callV] at hcall

end
end Go.AM
