/- Code: what the abstract machine runs, the model runs. Operations at their place; calls. -/
import Derived.Test.YtcclefkkjboaeaaGreatDoorAOps9
import Derived.AtR
import Derived.Scope

namespace Go.AM
open Go

section
variable {P : Program} {mts : List TypeId}

/-! ### Globals -/

def GlobOK (ρ : Rho) : Prop := ∀ g, g < 1 → ∃ m, ρ g = some m ∧ m.c = g ∧ m.base = 0

theorem GlobOK.mono {ρ ρ' : Rho} (h : ρ.le ρ') (hg : GlobOK ρ) : GlobOK ρ' := fun g hlt =>
  let ⟨m, e, r⟩ := hg g hlt; ⟨m, h _ _ e, r⟩

theorem GlobOK.rel {ρ : Rho} (hg : GlobOK ρ) {g : Nat} (h : g < 1) : VRel ρ (.pointer (some ⟨g, 0, none⟩)) (.pointer (some ⟨g, 0, none⟩)) := by
  obtain ⟨m, e, hc, hb⟩ := hg g h
  exact .ptr _ _ ⟨rfl, m, e, by simp [hc, hb]⟩

theorem ev_rel {ρ : Rho} {tm : T Value} {a : Act} (hg : GlobOK ρ) (h : TRel ρ tm a.tmps) {x : Operand} (hx : opdOk x = true) : VRel ρ (aev tm x) (a.eval x) := by
  cases x with
  | tmp t => exact h t
  | const v => exact const_rel ρ hx
  | global g => exact hg.rel (by simpa [opdOk] using hx)
  | func f => exact .func f _ _ _ _ rfl (fun i x y h => by simp at h) rfl (fun i x y h => by simp at h)

/-! ### Calls -/

/-- What a call comes to. -/
def CallsOK (P : Program) (mts : List TypeId) (ρ : Rho) (σ : AW) (w : World) (f : FuncId) (args' : Array Value) (v : Value) (σ' : AW) : Prop :=
  Calls P f args' w fun e w' => ∃ ρ' v', e = .returned v' ∧ VRel ρ' v v' ∧ Step P mts ρ σ w ρ' σ' w'

def Body (P : Program) (f : FuncId) : Prop := ∃ fn b, P.funcs[f]? = some fn ∧ fn.body = some b ∧ (fn.name != "runtime.NumGoroutine") = true

def FunsOK (P : Program) (mts : List TypeId) (F : FuncId → Option AFunc) (ex : Exec) : Prop :=
  ∀ (f : FuncId) (args : List Value) (σ : AW) (v : Value) (σ' : AW), callF F ex f args σ = some (v, σ') →
    Body P f ∧ ∀ (ρ : Rho) (w : World) (args' : Array Value), LRel ρ args args'.toList → WRel P mts ρ σ w → GlobOK ρ → CallsOK P mts ρ σ w f args' v σ'

theorem run_callFunc {f : FuncId} (h : Body P f) (args : Array Value) (w : World) : (callFunc f args).run P w = .ok (.enter f args) w := by
  obtain ⟨fn, b, hf, hb, hn⟩ := h
  have hn' : ¬ fn.name = "runtime.NumGoroutine" := by simpa [bne] using hn
  simp [callFunc, hf, hb, hn']

theorem findCase_spec {name : String} : ∀ (ts : List TypeId) (t : TypeId) (f : FuncId), findCase t (casesOf P name ts) = some f → methodAt P t name = some f := by
  intro ts
  induction ts with
  | nil => intro t f h; simp [casesOf, findCase] at h
  | cons u ts ih =>
    intro t f h
    simp only [casesOf] at h
    split at h
    · rename_i g hg
      simp only [findCase] at h
      by_cases e : t = u
      · subst e
        simp at h; subst h; exact hg
      · have : Nat.beq t u = false := by
          rw [Bool.eq_false_iff]; intro hh; exact e (Nat.eq_of_beq_eq_true hh)
        rw [this] at h
        exact ih t f h
    · exact ih t f h

theorem run_callMethod {t : TypeId} {name : String} {f : FuncId} (h : methodAt P t name = some f) (hb : Body P f) (v : Value) (args : Array Value) (w : World) :
    (callMethod (.iface t v) name args).run P w = .ok (.enter f (#[v] ++ args)) w := by
  unfold methodAt at h
  split at h
  · rename_i el i hu hi
    split at h
    · rename_i m hm
      split at h
      · rename_i g hp hf
        cases h
        have hd : ∃ n, P.types.size + Made.depth = n + 1 := ⟨P.types.size + Made.depth - 1, by simp [Made.depth]⟩
        obtain ⟨n, hn⟩ := hd
        simp [callMethod, hn, method, typeInfo, hi, hm, hp, hf, follow, receiverAt, run_underlying hu, Place.get, run_callFunc hb]
      · cases h
    · cases h
  · cases h

def isCallA : AOp → Bool
  | .call .. | .invoke .. => true
  | _ => false
theorem map_call {α : Type} {x : Option α} {f : α → AOp} {ao : AOp} (h : x.map f = some ao) (hf : ∀ a, isCallA (f a) = false) : isCallA ao = false := by
  cases x with
  | none => cases h
  | some a => cases h; exact hf a
theorem compBuiltin_call {P : Program} {b : Builtin} {tys : Array TypeId} {args : List Operand} {ao : AOp} (h : compBuiltin P b tys args = some ao) : isCallA ao = false := by
  unfold compBuiltin at h
  repeat' split at h
  all_goals first
    | (cases h; done)
    | (cases h; rfl)
    | (exact map_call h fun _ => rfl)
    | (cases hb : (lenIs _ _ && _) with
       | false => rw [hb] at h; cases h
       | true => rw [hb] at h; cases h; rfl)
    | (simp only [Bool.cond_eq_ite] at h; split at h <;> first | (cases h; done) | (cases h; rfl))
theorem compOp0_call {P : Program} {mts : List TypeId} {op : Op} {ao : AOp} (h : compOp0 P mts op = some ao) (hc : isCallA ao = true) : ∃ c, op = .call c := by
  unfold compOp0 at h
  split at h
  all_goals (try exact ⟨_, rfl⟩)
  all_goals exfalso
  all_goals (repeat' split at h)
  all_goals first
    | (cases h; done)
    | (cases h; cases hc; done)
    | (rw [map_call h fun _ => rfl] at hc; cases hc; done)
    | (simp only [Bool.cond_eq_ite] at h; split at h <;> first | (cases h; done) | (cases h; cases hc; done) | (rw [map_call h fun _ => rfl] at hc; cases hc; done))

/-- One operation, a call or another, at its place. -/
theorem oper_step {F : FuncId → Option AFunc} {ex : Exec} (hF : FunsOK P mts F ex) {b : Frame} {a : Act} {k : List Item} {cs : List Frame} {w : World} {ops : Array Oper} {i : Nat} {rest : List Nat} {o : Oper}
    (ho : ops[i]? = some o) (hw : Region.wanted o (yielded ops a.tmps) = true) {ao : AOp} (hc : compOp P mts o.op = some ao) {ρ : Rho} {σ σ' : AW} (hrel : WRel P mts ρ σ w) (hg : GlobOK ρ)
    {ev : Operand → Value} (hev : ∀ x ∈ o.op.operands.toList, VRel ρ (ev x) (a.eval x)) {v : Value} (hr : aoper F ex ev ao σ = some (v, σ')) :
    ∃ ρ' v' w', Steps P (lone (b.atR a (.inRegion ops (i :: rest) :: k)) cs w) (lone (b.atR (a.put o.dst v') (.inRegion ops rest :: k)) cs w') ∧ VRel ρ' v v' ∧ Step P mts ρ σ w ρ' σ' w' := by
  have hfin : ∀ v, (b.atR a (.inRegion ops (i :: rest) :: k)).finish v = b.atR (a.put o.dst v) (.inRegion ops rest :: k) := by
    intro v; rw [Frame.finish_atR, ho]; rfl
  have hc0 : compOp0 P mts o.op = some ao := by
    unfold compOp at hc
    cases hb : o.op.operands.toList.all opdOk with
    | false => simp [hb] at hc
    | true => simpa [hb] using hc
  have hdef : ∀ c, o.op ≠ .defer c := by
    intro c e; rw [e] at hc0; simp [compOp0] at hc0
  have hstep := stepGR_op (P := P) (b := b) (k := k) (cs := cs) (w := w) (rest := rest) ho hw
  rw [Oper.semAt_eq _ _ _ hdef] at hstep
  -- a call of a function of the program's
  have hcall : ∀ f args args', LRel ρ args args'.toList → callF F ex f args σ = some (v, σ') → (Body P f → (execOp a.eval o).run P w = .ok (.enter f args') w) →
      ∃ ρ' v' w', Steps P (lone (b.atR a (.inRegion ops (i :: rest) :: k)) cs w) (lone (b.atR (a.put o.dst v') (.inRegion ops rest :: k)) cs w') ∧ VRel ρ' v v' ∧ Step P mts ρ σ w ρ' σ' w' := by
    intro f args args' hl hcf hrun
    obtain ⟨hb, hok⟩ := hF f args σ v σ' hcf
    obtain ⟨e, w', fr, hR, hsteps, _, hleave⟩ := hok ρ w args' hl hrel hg (b.atR a (.inRegion ops (i :: rest) :: k) :: cs)
    obtain ⟨ρ', v', rfl, hv, hs⟩ := hR
    have hrun := hrun hb
    have henter : step P (lone (b.atR a (.inRegion ops (i :: rest) :: k)) cs w) =
        .next (lone (Frame.enter P f args' .normal) (b.atR a (.inRegion ops (i :: rest) :: k) :: cs) w) :=
      step_lone_go (by rw [hstep]; simp [stepG.apply, hrun, Frame.atR])
    refine ⟨ρ', v', w', .head henter (Steps.trans hsteps (.one ?_)), hv, hs⟩
    rw [← hfin]; exact step_leave_returned hleave
  have hother : aop ev ao σ = some (v, σ') →
      ∃ ρ' v' w', Steps P (lone (b.atR a (.inRegion ops (i :: rest) :: k)) cs w) (lone (b.atR (a.put o.dst v') (.inRegion ops rest :: k)) cs w') ∧ VRel ρ' v v' ∧ Step P mts ρ σ w ρ' σ' w' := by
    intro hr
    obtain ⟨nx, v', w', ρ', hrun, hnx, hv, hs⟩ := op_sim hrel o hc0 hev hr
    refine ⟨ρ', v', w', .one (step_lone_go ?_), hv, hs⟩
    rw [hstep, ← hfin]
    rcases hnx with rfl | ⟨rfl, rfl⟩
    · simp [stepG.apply, hrun]
    · simp [stepG.apply, hrun]
  have hargs : ∀ cargs : Array Operand, (∀ x ∈ cargs.toList, x ∈ o.op.operands.toList) → LRel ρ (cargs.toList.map ev) (cargs.map a.eval).toList := by
    intro cargs hin
    refine ⟨by simp, fun j x y hx hy => ?_⟩
    simp only [Array.toList_map, List.getElem?_map, Option.map_eq_some_iff] at hx hy
    obtain ⟨z, hz, rfl⟩ := hx
    obtain ⟨z', hz', rfl⟩ := hy
    rw [hz] at hz'; cases hz'
    exact hev z (hin z (List.mem_of_getElem? hz))
  cases hca : isCallA ao with
  | false =>
    refine hother ?_
    cases ao <;> first | exact hr | cases hca
  | true =>
    obtain ⟨c, hop⟩ := compOp0_call hc0 hca
    obtain ⟨callee, cargs, tys⟩ := c
    rw [hop] at hc0 hev hargs
    simp only [compOp0] at hc0
    cases callee with
    | value g =>
      simp only [Option.some.injEq] at hc0
      subst hc0
      have hargs := hargs cargs (fun x hx => by simp only [Op.operands, Call.operands]; simpa using Or.inr (by simpa using hx))
      have hgr := hev g (by simp [Op.operands, Call.operands])
      simp only [aoper] at hr
      generalize hx : ev g = x at hr hgr
      generalize hy : a.eval g = y at hgr
      cases hgr with
      | func f fst capt fst' capt' h1 h2 h3 h4 =>
        simp only [callV] at hr
        refine hcall f _ (fst' ++ cargs.map a.eval ++ capt') ?_ hr fun hb => ?_
        · simp only [Array.toList_append]
          exact ((LRel.of_arrays h1 h2).append hargs).append (LRel.of_arrays h3 h4)
        · simp [execOp, hop, resolve, Deferred.ofValue, invoke, hy, run_callFunc hb]
      | _ => simp [callV] at hr
    | invoke r name =>
      simp only [Option.some.injEq] at hc0
      subst hc0
      have hargs := hargs cargs (fun x hx => by simp only [Op.operands, Call.operands]; simpa using Or.inr (by simpa using hx))
      have hgr := hev r (by simp [Op.operands, Call.operands])
      simp only [aoper] at hr
      generalize hx : ev r = x at hr hgr
      generalize hy : a.eval r = y at hgr
      cases hgr with
      | iface t u u' hu =>
        simp only at hr
        split at hr
        · rename_i f hf
          have hm := findCase_spec _ _ _ hf
          refine hcall f _ (#[u'] ++ cargs.map a.eval) ?_ hr fun hb => ?_
          · simp only [Array.toList_append]
            exact .cons hu hargs
          · have hx : (#[Value.iface t u'] ++ cargs.map a.eval).extract 1 (#[Value.iface t u'] ++ cargs.map a.eval).size = cargs.map a.eval := by
              apply Array.ext
              · simp
              · intro i h1 h2
                simp only [Array.getElem_extract]
                rw [Array.getElem_append_right (by simp)]
                simp
            have h0 : (#[Value.iface t u'] ++ cargs.map a.eval)[0]? = some (.iface t u') := by rw [Array.getElem?_append_left (by simp)]; rfl
            simp only [execOp, hop, resolve, hy, invoke, Sem.run_bind, Sem.run_pure, Result.andThen_ok, h0, hx]
            exact run_callMethod hm hb _ _ _
        · cases hr
      | _ => simp at hr
    | builtin bb =>
      rw [compBuiltin_call hc0] at hca; cases hca

end
end Go.AM
