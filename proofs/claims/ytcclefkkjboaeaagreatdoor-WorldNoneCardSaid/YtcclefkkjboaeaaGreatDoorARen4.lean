/- The abstract machine runs alike wherever its blocks stand: code and calls. -/
import Derived.Test.YtcclefkkjboaeaaGreatDoorARen3

namespace Go.AM
open Go

def operC (o : AOper) : Bool := opC o.op

def codeC : ACode → Bool
  | .ops l => l.all operC
  | .draw l => l.all fun d => operC d.op && d.again.all operC
  | .seq a b => codeC a && codeC b
  | .cond c a b => opdOk c && (codeC a && codeC b)
  | .block _ b => codeC b
  | .loop b => codeC b
  | .scope b => codeC b
  | .rangeFunc f _ a b => opdOk f && (codeC a && codeC b)
  | .skip | .exit _ | .label _ | .ret | .bad => true

def Closed (F : FuncId → Option AFunc) : Prop := ∀ f af, F f = some af → codeC af.body = true

section
variable {r : Nat → Nat}

mutual
theorem veq_ren : ∀ (x y : Value), veq x y = true → veq (ren r x) (ren r y) = true
  | .bool a, y, h => by cases y <;> simp_all [veq, ren]
  | .int k a, y, h => by cases y <;> simp_all [veq, ren]
  | .string a, y, h => by cases y <;> simp_all [veq, ren]
  | .pointer a, y, h => by cases y <;> simp_all [veq, ren]
  | .slice a n c, y, h => by cases y <;> simp_all [veq, ren]
  | .map a, y, h => by cases y <;> simp_all [veq, ren]
  | .func f a b, y, h => by
    cases y with
    | func g c d =>
      simp only [veq, Bool.and_eq_true, beq_iff_eq, ren] at h ⊢
      exact ⟨⟨by rw [h.1.1], veqA_ren _ _ h.1.2⟩, veqA_ren _ _ h.2⟩
    | _ => simp [veq] at h
  | .nilFunc, y, h => by cases y <;> simp_all [veq, ren]
  | .iface t a, y, h => by
    cases y with
    | iface u b =>
      simp only [veq, Bool.and_eq_true, ren] at h ⊢
      exact ⟨h.1, veq_ren _ _ h.2⟩
    | _ => simp [veq] at h
  | .nilIface, y, h => by cases y <;> simp_all [veq, ren]
  | .agg a, y, h => by
    cases y with
    | agg b => simp only [veq, ren] at h ⊢; exact veqA_ren _ _ h
    | _ => simp [veq] at h
  | .tuple a, y, h => by
    cases y with
    | tuple b => simp only [veq, ren] at h ⊢; exact veqA_ren _ _ h
    | _ => simp [veq] at h
  | .float .., y, h => by simp [veq] at h
  | .complex .., y, h => by simp [veq] at h
  | .chan _, y, h => by simp [veq] at h
theorem veqA_ren : ∀ (x y : Array Value), veqA x y = true → veqA (renA r x) (renA r y) = true
  | ⟨l⟩, ⟨m⟩, h => by simp only [veqA, renA] at h ⊢; exact veqL_ren _ _ h
theorem veqL_ren : ∀ (x y : List Value), veqL x y = true → veqL (renL r x) (renL r y) = true
  | [], m, h => by cases m <;> simp_all [veqL, renL]
  | x :: xs, m, h => by
    cases m with
    | nil => simp [veqL] at h
    | cons y ys =>
      simp only [veqL, Bool.and_eq_true, renL] at h ⊢
      exact ⟨veq_ren _ _ h.1, veqL_ren _ _ h.2⟩
end

theorem aev_ren (h0 : r 0 = 0) (tm : T Value) {x : Operand} (hx : opdOk x = true) : aev (renT r tm) x = ren r (aev tm x) := by
  cases x with
  | tmp t =>
    simp only [aev, renT_get]
    cases tm.get t <;> simp
  | const v => exact (const_ren r hx).symm
  | global g =>
    simp only [opdOk, Nat.blt_eq] at hx
    have : g = 0 := by omega
    subst this
    simp [aev, ren, renAd, h0]
  | func f => simp [aev, ren, renFn, renA, renL]

theorem wanted_ren (tm : T Value) (g : Option (Nat × Bool)) : wanted (renT r tm) g = wanted tm g := by
  cases g with
  | none => rfl
  | some p =>
    obtain ⟨t, w⟩ := p
    simp only [wanted, renT_get]
    cases tm.get t with
    | none => rfl
    | some v => cases v <;> simp [ren]

theorem putD_ren (tm : T Value) (d : Option Nat) (v : Value) : renT r (putD tm d v) = putD (renT r tm) d (ren r v) := by
  cases d <;> simp [putD, renT_set]

theorem argsOf_ren : ∀ (vs : List Value) (i : Nat) (tm : T Value), renT r (argsOf vs i tm) = argsOf (vs.map (ren r)) i (renT r tm)
  | [], i, tm => rfl
  | v :: vs, i, tm => by simp [argsOf, argsOf_ren vs, renT_set]

theorem aResult_ren {σ τ : AW} (h : Emb r σ τ) {tm : T Value} {a : AResult} {v : Value} (hr : aResult tm σ a = some v) : aResult (renT r tm) τ a = some (ren r v) := by
  have e : ∀ t, ((renT r tm).get t).getD undef = ren r ((tm.get t).getD undef) := by
    intro t; rw [renT_get]; cases tm.get t <;> simp
  cases a with
  | tmp t => simp only [aResult, e, Option.some.injEq] at hr ⊢; rw [hr]
  | cell1 t =>
    simp only [aResult, e] at hr ⊢
    split at hr
    · rename_i a ea
      simp only [ea, ren, Option.map_some]
      split at hr
      · rename_i x hl
        rw [h.loadN hl]; cases hr; rfl
      · cases hr
    · cases hr
  | cellN t n =>
    simp only [aResult, e] at hr ⊢
    split at hr
    · rename_i a ea
      simp only [ea, ren, Option.map_some]
      simp only [Option.map_eq_some_iff] at hr ⊢
      obtain ⟨cs, hl, rfl⟩ := hr
      exact ⟨_, h.loadN hl, by simp [ren, renA_mk]⟩
    · cases hr

theorem aResults_ren {σ τ : AW} (h : Emb r σ τ) {tm : T Value} : ∀ {rs : List AResult} {vs : List Value}, aResults tm σ rs = some vs → aResults (renT r tm) τ rs = some (vs.map (ren r))
  | [], vs, hr => by simp only [aResults, Option.some.injEq] at hr ⊢; subst hr; rfl
  | a :: rs, vs, hr => by
    simp only [aResults] at hr ⊢
    split at hr
    · rename_i v vs' h1 h2
      rw [aResult_ren h h1, aResults_ren h h2]; cases hr; rfl
    · cases hr

theorem packed_ren (vs : List Value) : packed (vs.map (ren r)) = ren r (packed vs) := by
  match vs with
  | [] => simp [packed, ren, renA, renL]
  | [v] => rfl
  | v :: w :: l => simp [packed, ren, renA, renL, renL_eq]

def ExOK (r : Nat → Nat) (ex : Exec) : Prop := ∀ c tm σ τ e tm' σ', codeC c = true → Emb r σ τ → ex c tm σ = some (e, tm', σ') →
  ∃ τ', ex c (renT r tm) τ = some (e, renT r tm', τ') ∧ Fr r σ τ σ' τ'

section
variable {F : FuncId → Option AFunc} {ex : Exec} (hF : Closed F) (h0 : r 0 = 0) (hE : ExOK r ex)
include hF hE

theorem callF_ren {f : FuncId} {args : List Value} {σ τ σ' : AW} {v : Value} (h : Emb r σ τ) (hr : callF F ex f args σ = some (v, σ')) :
    ∃ τ', callF F ex f (args.map (ren r)) τ = some (ren r v, τ') ∧ Fr r σ τ σ' τ' := by
  unfold callF at hr ⊢
  split at hr
  · cases hr
  · rename_i af hf
    simp only [List.length_map] at hr ⊢
    cases hl : Nat.ble args.length af.ntmps
    · rw [hl] at hr; cases hr
    · rw [hl] at hr
      simp only [cond_true] at hr ⊢
      have e : argsOf (args.map (ren r)) 0 .leaf = renT r (argsOf args 0 .leaf) := by rw [argsOf_ren]; rfl
      rw [e]
      split at hr
      · rename_i tm σ1 hx
        obtain ⟨τ1, hx', hf'⟩ := hE _ _ _ _ _ _ _ (hF f af hf) h hx
        rw [hx']
        simp only [Option.map_eq_some_iff, Prod.mk.injEq] at hr ⊢
        obtain ⟨vs, hvs, rfl, rfl⟩ := hr
        exact ⟨τ1, ⟨_, aResults_ren hf'.emb hvs, packed_ren vs, rfl⟩, hf'⟩
      · rename_i tm σ1 hx
        obtain ⟨τ1, hx', hf'⟩ := hE _ _ _ _ _ _ _ (hF f af hf) h hx
        rw [hx']
        simp only [Option.map_eq_some_iff, Prod.mk.injEq] at hr ⊢
        obtain ⟨vs, hvs, rfl, rfl⟩ := hr
        exact ⟨τ1, ⟨_, aResults_ren hf'.emb hvs, packed_ren vs, rfl⟩, hf'⟩
      · cases hr

theorem callV_ren {f : Value} {args : List Value} {σ τ σ' : AW} {v : Value} (h : Emb r σ τ) (hr : callV F ex f args σ = some (v, σ')) :
    ∃ τ', callV F ex (ren r f) (args.map (ren r)) τ = some (ren r v, τ') ∧ Fr r σ τ σ' τ' := by
  unfold callV at hr
  split at hr
  · rename_i f a b
    simp only [ren, renFn, callV, renA_toList]
    have := callF_ren hF hE h hr
    simpa only [List.map_append] using this
  · cases hr

include h0

theorem runOper_ren {o : AOper} (hc : operC o = true) {tm tm' : T Value} {σ τ σ' : AW} (h : Emb r σ τ) (hr : runOper F ex o tm σ = some (tm', σ')) :
    ∃ τ', runOper F ex o (renT r tm) τ = some (renT r tm', τ') ∧ Fr r σ τ σ' τ' := by
  have hev : ∀ x, opdOk x = true → aev (renT r tm) x = ren r (aev tm x) := fun x hx => aev_ren h0 tm hx
  unfold runOper at hr ⊢
  rw [wanted_ren]
  cases hw : wanted tm o.guard
  · rw [hw] at hr
    simp only [cond_false, Option.some.injEq, Prod.mk.injEq] at hr ⊢
    obtain ⟨rfl, rfl⟩ := hr
    exact ⟨τ, ⟨by rw [putD_ren, ren_undef], rfl⟩, .refl h⟩
  · rw [hw] at hr
    simp only [cond_true] at hr ⊢
    have key : ∀ {v σ'}, aoper F ex (aev tm) o.op σ = some (v, σ') → ∃ τ', aoper F ex (aev (renT r tm)) o.op τ = some (ren r v, τ') ∧ Fr r σ τ σ' τ' := by
      intro v σ' hx
      obtain ⟨d, op, g⟩ := o
      have hc' : opC op = true := hc
      simp only [opC, Bool.and_eq_true] at hc'
      obtain ⟨ho, -, -⟩ := hc'
      cases op with
      | call f l =>
        simp only [aoper] at hx ⊢
        rw [hev f (List.all_eq_true.1 ho f (by simp [opdsOf]))]
        have e1 : l.map (aev (renT r tm)) = (l.map (aev tm)).map (ren r) := by
          rw [List.map_map]; exact List.map_congr_left fun x hx => hev x (List.all_eq_true.1 ho x (by simp [opdsOf, hx]))
        rw [e1]
        exact callV_ren hF hE h hx
      | invoke x cs l =>
        simp only [aoper] at hx ⊢
        rw [hev x (List.all_eq_true.1 ho x (by simp [opdsOf]))]
        have e1 : l.map (aev (renT r tm)) = (l.map (aev tm)).map (ren r) := by
          rw [List.map_map]; exact List.map_congr_left fun x hx => hev x (List.all_eq_true.1 ho x (by simp [opdsOf, hx]))
        split at hx
        · rename_i t v' ev
          simp only [ev, ren]
          split at hx
          · rename_i f hf
            rw [e1]
            exact callF_ren (args := v' :: l.map (aev tm)) hF hE h hx
          · cases hx
        · cases hx
      | _ => exact aop_ren hc (fun x hx => hev x (List.all_eq_true.1 ho x hx)) h hx
    split at hr
    · rename_i v σ1 hx
      obtain ⟨τ1, hx', hf'⟩ := key hx
      rw [hx']
      simp only [Option.some.injEq, Prod.mk.injEq] at hr ⊢
      obtain ⟨rfl, rfl⟩ := hr
      exact ⟨τ1, ⟨by rw [putD_ren], rfl⟩, hf'⟩
    · cases hr

theorem runOps_ren : ∀ {l : List AOper}, l.all operC = true → ∀ {tm tm' : T Value} {σ τ σ' : AW}, Emb r σ τ → runOps F ex l tm σ = some (tm', σ') →
    ∃ τ', runOps F ex l (renT r tm) τ = some (renT r tm', τ') ∧ Fr r σ τ σ' τ'
  | [], _, tm, tm', σ, τ, σ', h, hr => by
    simp only [runOps, Option.some.injEq, Prod.mk.injEq] at hr ⊢
    obtain ⟨rfl, rfl⟩ := hr
    exact ⟨τ, ⟨rfl, rfl⟩, .refl h⟩
  | o :: l, hc, tm, tm', σ, τ, σ', h, hr => by
    simp only [List.all_cons, Bool.and_eq_true] at hc
    simp only [runOps] at hr ⊢
    split at hr
    · rename_i tm1 σ1 hx
      obtain ⟨τ1, hx', hf⟩ := runOper_ren hF h0 hE hc.1 h hx
      rw [hx']
      obtain ⟨τ2, hr', hf2⟩ := runOps_ren hc.2 hf.emb hr
      exact ⟨τ2, hr', hf.trans h hf2⟩
    · cases hr

omit hF hE in
theorem runAgain_ren : ∀ {l : List AOper}, l.all operC = true → ∀ {tm : T Value} {σ τ : AW}, Emb r σ τ → runAgain l tm σ = true → runAgain l (renT r tm) τ = true
  | [], _, tm, σ, τ, h, hr => rfl
  | o :: l, hc, tm, σ, τ, h, hr => by
    simp only [List.all_cons, Bool.and_eq_true] at hc
    simp only [runAgain, Bool.and_eq_true, wanted_ren] at hr ⊢
    refine ⟨?_, runAgain_ren hc.2 h hr.2⟩
    have hr := hr.1
    cases hw : wanted tm o.guard
    · rfl
    · rw [hw] at hr
      simp only [cond_true] at hr ⊢
      split at hr
      · rename_i v σ1 d hx hd
        obtain ⟨τ1, hx', -⟩ := aop_ren hc.1 (fun x hx => aev_ren h0 tm (List.all_eq_true.1 (by have := hc.1; simp only [operC, opC, Bool.and_eq_true] at this; exact this.1) x hx)) h hx
        rw [hx', hd]
        simp only [renT_get]
        split at hr
        · rename_i v' hg
          rw [hg]; exact veq_ren _ _ hr
        · cases hr
      · cases hr

theorem runDraw_ren : ∀ {l : List DOper}, (l.all fun d => operC d.op && d.again.all operC) = true → ∀ {tm tm' : T Value} {σ τ σ' : AW}, Emb r σ τ → runDraw F ex l tm σ = some (tm', σ') →
    ∃ τ', runDraw F ex l (renT r tm) τ = some (renT r tm', τ') ∧ Fr r σ τ σ' τ'
  | [], _, tm, tm', σ, τ, σ', h, hr => by
    simp only [runDraw, Option.some.injEq, Prod.mk.injEq] at hr ⊢
    obtain ⟨rfl, rfl⟩ := hr
    exact ⟨τ, ⟨rfl, rfl⟩, .refl h⟩
  | o :: l, hc, tm, tm', σ, τ, σ', h, hr => by
    simp only [List.all_cons, Bool.and_eq_true] at hc
    simp only [runDraw] at hr ⊢
    split at hr
    · rename_i tm1 σ1 hx
      obtain ⟨τ1, hx', hf⟩ := runOper_ren hF h0 hE hc.1.1 h hx
      rw [hx']
      cases ha : runAgain o.again tm1 σ1
      · rw [ha] at hr; cases hr
      · rw [ha] at hr
        simp only [runAgain_ren h0 hc.1.2 hf.emb ha, cond_true] at hr ⊢
        obtain ⟨τ2, hr', hf2⟩ := runDraw_ren hc.2 hf.emb hr
        exact ⟨τ2, hr', hf.trans h hf2⟩
    · cases hr

theorem execStep_ren : ExOK r (execStep F ex) := by
  intro c tm σ τ e tm' σ' hc h hr
  have done : ∀ {e e' : AExit} {tm tm' : T Value} {σ' : AW}, some (e, tm, σ) = some (e', tm', σ') → ∃ τ', some (e, renT r tm, τ) = some (e', renT r tm', τ') ∧ Fr r σ τ σ' τ' := by
    intro e e' tm tm' σ' e1
    simp only [Option.some.injEq, Prod.mk.injEq] at e1
    obtain ⟨rfl, rfl, rfl⟩ := e1
    exact ⟨τ, rfl, .refl h⟩
  cases c with
  | skip => exact done hr
  | label l => exact done hr
  | exit id => exact done hr
  | ret => exact done hr
  | bad => simp [execStep] at hr
  | ops l =>
    simp only [execStep, Option.map_eq_some_iff, Prod.mk.injEq] at hr ⊢
    obtain ⟨⟨tm1, σ1⟩, hx, rfl, rfl, rfl⟩ := hr
    obtain ⟨τ1, hx', hf⟩ := runOps_ren hF h0 hE hc h hx
    exact ⟨τ1, ⟨_, hx', rfl, rfl, rfl⟩, hf⟩
  | draw l =>
    simp only [execStep, Option.map_eq_some_iff, Prod.mk.injEq] at hr ⊢
    obtain ⟨⟨tm1, σ1⟩, hx, rfl, rfl, rfl⟩ := hr
    obtain ⟨τ1, hx', hf⟩ := runDraw_ren hF h0 hE hc h hx
    exact ⟨τ1, ⟨_, hx', rfl, rfl, rfl⟩, hf⟩
  | seq a b =>
    simp only [codeC, Bool.and_eq_true] at hc
    simp only [execStep] at hr ⊢
    cases hx : ex a tm σ with
    | none => rw [hx] at hr; cases hr
    | some p =>
      obtain ⟨e1, tm1, σ1⟩ := p
      obtain ⟨τ1, hx', hf⟩ := hE _ _ _ _ _ _ _ hc.1 h hx
      rw [hx] at hr; rw [hx']
      cases e1 with
      | normal =>
        simp only at hr ⊢
        obtain ⟨τ2, hr', hf2⟩ := hE _ _ _ _ _ _ _ hc.2 hf.emb hr
        exact ⟨τ2, hr', hf.trans h hf2⟩
      | exit id =>
        simp only [Option.some.injEq, Prod.mk.injEq] at hr ⊢
        obtain ⟨rfl, rfl, rfl⟩ := hr
        exact ⟨τ1, ⟨rfl, rfl, rfl⟩, hf⟩
      | ret =>
        simp only [Option.some.injEq, Prod.mk.injEq] at hr ⊢
        obtain ⟨rfl, rfl, rfl⟩ := hr
        exact ⟨τ1, ⟨rfl, rfl, rfl⟩, hf⟩
  | cond c a b =>
    simp only [codeC, Bool.and_eq_true] at hc
    simp only [execStep, aev_ren h0 tm hc.1] at hr ⊢
    split at hr
    · rename_i t e1
      simp only [e1, ren]
      cases t
      · exact hE _ _ _ _ _ _ _ hc.2.2 h hr
      · exact hE _ _ _ _ _ _ _ hc.2.1 h hr
    · cases hr
  | block id b =>
    simp only [codeC] at hc
    simp only [execStep] at hr ⊢
    cases hx : ex b tm σ with
    | none => rw [hx] at hr; cases hr
    | some p =>
      obtain ⟨e1, tm1, σ1⟩ := p
      obtain ⟨τ1, hx', hf⟩ := hE _ _ _ _ _ _ _ hc h hx
      rw [hx] at hr; rw [hx']
      cases e1 with
      | exit id' =>
        simp only at hr ⊢
        cases hb : Nat.beq id' id <;> rw [hb] at hr <;> simp only [cond_true, cond_false, Option.some.injEq, Prod.mk.injEq] at hr ⊢ <;> obtain ⟨rfl, rfl, rfl⟩ := hr <;> exact ⟨τ1, ⟨rfl, rfl, rfl⟩, hf⟩
      | normal =>
        simp only [Option.some.injEq, Prod.mk.injEq] at hr ⊢
        obtain ⟨rfl, rfl, rfl⟩ := hr
        exact ⟨τ1, ⟨rfl, rfl, rfl⟩, hf⟩
      | ret =>
        simp only [Option.some.injEq, Prod.mk.injEq] at hr ⊢
        obtain ⟨rfl, rfl, rfl⟩ := hr
        exact ⟨τ1, ⟨rfl, rfl, rfl⟩, hf⟩
  | loop b =>
    have hc0 := hc
    simp only [codeC] at hc
    simp only [execStep] at hr ⊢
    cases hx : ex b tm σ with
    | none => rw [hx] at hr; cases hr
    | some p =>
      obtain ⟨e1, tm1, σ1⟩ := p
      obtain ⟨τ1, hx', hf⟩ := hE _ _ _ _ _ _ _ hc h hx
      rw [hx] at hr; rw [hx']
      cases e1 with
      | normal =>
        simp only at hr ⊢
        obtain ⟨τ2, hr', hf2⟩ := hE _ _ _ _ _ _ _ hc0 hf.emb hr
        exact ⟨τ2, hr', hf.trans h hf2⟩
      | exit id =>
        simp only [Option.some.injEq, Prod.mk.injEq] at hr ⊢
        obtain ⟨rfl, rfl, rfl⟩ := hr
        exact ⟨τ1, ⟨rfl, rfl, rfl⟩, hf⟩
      | ret =>
        simp only [Option.some.injEq, Prod.mk.injEq] at hr ⊢
        obtain ⟨rfl, rfl, rfl⟩ := hr
        exact ⟨τ1, ⟨rfl, rfl, rfl⟩, hf⟩
  | scope b => exact hE _ _ _ _ _ _ _ hc h hr
  | rangeFunc f ps a b =>
    simp only [codeC, Bool.and_eq_true] at hc
    simp only [execStep, aev_ren h0 tm hc.1] at hr ⊢
    have hp := h.push (.loop { state := .ready, pending := none, tmps := tm, params := ps, assign := a, body := b })
    split at hr
    · rename_i v2 σ2 hx
      obtain ⟨τ2, hx', hf⟩ := callV_ren hF hE hp.emb hx
      have e1 : [Value.func (.yield σ.next) #[] #[]].map (ren r) = [Value.func (.yield τ.next) #[] #[]] := by simp [ren, renFn, renA, renL, r_next h]
      rw [e1] at hx'
      simp only [renO] at hx'
      rw [hx']
      simp only
      split at hr
      · rename_i L hg
        have hg' := hf.emb.get _ _ hg
        rw [r_next h] at hg'
        simp only [renO] at hg'
        rw [hg']
        simp only
        have fin : ∀ {q : Option (AExit × T Value × AW)}, (match L.pending with
            | none => some (AExit.normal, tm, σ2.upd σ.next (.loop { L with state := .exhausted }))
            | some _ => none) = some (e, tm', σ') → ∃ τ', (match L.pending with
            | none => some (AExit.normal, renT r tm, τ2.upd τ.next (.loop { L with tmps := renT r L.tmps, state := .exhausted }))
            | some _ => none) = some (e, renT r tm', τ') ∧ Fr r σ τ σ' τ' := by
          intro _ hq
          split at hq
          · rename_i hpn
            simp only [Option.some.injEq, Prod.mk.injEq] at hq ⊢
            obtain ⟨rfl, rfl, rfl⟩ := hq
            have hu := hf.emb.upd hg (.loop { L with state := .exhausted })
            rw [r_next h] at hu
            exact ⟨_, ⟨rfl, rfl, rfl⟩, hp.trans h (hf.trans hp.emb hu)⟩
          · cases hq
        cases hst : L.state <;> rw [hst] at hr <;> first | cases hr; done | exact fin (q := none) hr
      · cases hr
    · cases hr

end

theorem exec_ren {F : FuncId → Option AFunc} (hF : Closed F) (h0 : r 0 = 0) : ∀ n, ExOK r (exec F n)
  | 0 => by intro c tm σ τ e tm' σ' _ _ hr; cases hr
  | n + 1 => execStep_ren hF h0 (exec_ren hF h0 n)

/-- **Whatever runs in a memory runs alike in any in which that memory stands.** -/
theorem call_ren {F : FuncId → Option AFunc} (hF : Closed F) (h0 : r 0 = 0) {n : Nat} {f : FuncId} {args : List Value} {σ τ σ' : AW} {v : Value} (h : Emb r σ τ) (hr : call F n f args σ = some (v, σ')) :
    ∃ τ', call F n f (args.map (ren r)) τ = some (ren r v, τ') ∧ Fr r σ τ σ' τ' :=
  callF_ren hF (exec_ren hF h0 n) h hr

end
end Go.AM
