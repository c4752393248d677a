/- Code: what the abstract machine runs, the model runs. The whole. -/
import Derived.Test.YtcclefkkjboaeaaGreatDoorASound3

namespace Go.AM
open Go

section
variable {P : Program} {mts : List TypeId}

theorem step_ok {F : FuncId → Option AFunc} (hD : DrawOK P mts F) {ex : Exec} (hC : CodeOK P mts ex) (hF : FunsOK P mts F ex) : CodeOK P mts (execStep F ex) := by
  intro mc c tm σ e tm' σ' ρ w b a k cs hb hc hr ht hw hg hm
  cases mc with
  | skip =>
    simp only [compCode, Option.some.injEq] at hc; subst hc
    simp only [execStep, Option.some.injEq, Prod.mk.injEq] at hr
    obtain ⟨rfl, rfl, rfl⟩ := hr
    exact .done hm (.refl hw) ht rfl rfl (.one stepR_skip)
  | label l =>
    simp only [compCode, Option.some.injEq] at hc; subst hc
    simp only [execStep, Option.some.injEq, Prod.mk.injEq] at hr
    obtain ⟨rfl, rfl, rfl⟩ := hr
    exact .done hm (.refl hw) ht rfl rfl (.one stepR_label)
  | exit id =>
    simp only [compCode, Option.some.injEq] at hc; subst hc
    simp only [execStep, Option.some.injEq, Prod.mk.injEq] at hr
    obtain ⟨rfl, rfl, rfl⟩ := hr
    exact .done hm (.refl hw) ht rfl rfl ⟨k, rfl, Steps.refl _ _⟩
  | ret =>
    simp only [compCode, Option.some.injEq] at hc; subst hc
    simp only [execStep, Option.some.injEq, Prod.mk.injEq] at hr
    obtain ⟨rfl, rfl, rfl⟩ := hr
    exact .done hm (.refl hw) ht rfl rfl ⟨k, Steps.refl _ _⟩
  | region id ops draw =>
    cases draw with
    | true =>
      have hc0 := hc
      simp only [compCode] at hc
      split at hc
      case h_2 => cases hc; simp [execStep] at hr
      rename_i as has
      simp only [cond_true] at hc
      obtain ⟨l, rfl⟩ : ∃ l, c = .draw l := by
        unfold compDraw at hc
        simp only at hc
        cases hb : planOk ops as (Region.before ops) (orderOf as (Region.before ops) ((as.zipIdx.filter fun x => isAct x.1).map (·.2)) ((as.zipIdx.filter fun x => isAct x.1).map (·.2)) 0) ops.size with
        | false => rw [hb] at hc; cases hc
        | true =>
          rw [hb] at hc
          simp only [cond_true, Option.map_eq_some_iff] at hc
          obtain ⟨dl, _, he⟩ := hc
          exact ⟨dl, he.symm⟩
      simp only [execStep, Option.map_eq_some_iff] at hr
      obtain ⟨⟨tm₁, σ₁⟩, hr, he⟩ := hr
      cases he
      obtain ⟨ρ', w', a', hs, ht', hz, hd, hst⟩ := hD ex hF id ops l tm σ _ _ ρ w b a k cs hc0 hr ht hw hg
      exact .done hm hst ht' hz hd hs
    | false =>
      simp only [compCode] at hc
      split at hc
      case h_2 => cases hc; simp [execStep] at hr
      rename_i as has
      simp only [cond_false, Option.some.injEq] at hc
      subst hc
      simp only [execStep, Option.map_eq_some_iff] at hr
      obtain ⟨⟨tm₁, σ₁⟩, hr, he⟩ := hr
      cases he
      obtain ⟨ρ', w', a', hs, ht', hz, hd, hst⟩ := runOps_sound hF (b := b) (k := k) (cs := cs) (ops := ops) ops.toList as 0 a tm σ _ _ ρ w has (fun q o hq => by simpa using hq) hr ht hw hg
      refine .done hm hst ht' hz hd ?_
      refine Steps.trans (.one stepR_region) (Steps.trans ?_ (.one (stepR_region_end (ops := ops))))
      simpa [List.range_eq_range'] using hs
  | seq x y =>
    simp only [compCode] at hc
    split at hc
    case h_2 => cases hc
    rename_i cx cy hx hy
    cases hc
    simp only [execStep] at hr
    split at hr
    · rename_i tm₁ σ₁ hrx
      obtain ⟨ρ₁, w₁, a₁, ms, ht₁, hz₁, hst₁, hd₁, hs₁, hm₁, hl₁⟩ := hC x cx tm σ .normal tm₁ σ₁ ρ w b a (.code y :: k) cs hb hx hrx ht hw hg hm
      have h2 := hC y cy tm₁ σ₁ e tm' σ' ρ₁ w₁ b a₁ k cs hb (by rw [hz₁]; exact hy) hr ht₁ hst₁.rel (hg.mono hst₁.le) hm₁
      exact .of_steps (Steps.trans (.one stepR_seq) hl₁) (.then hst₁ hz₁ hd₁ hs₁ h2)
    · rename_i hne
      obtain ⟨ρ₁, w₁, a₁, ms, ht₁, hz₁, hst₁, hd₁, hs₁, hm₁, hl₁⟩ := hC x cx tm σ e tm' σ' ρ w b a (.code y :: k) cs hb hx hr ht hw hg hm
      refine ⟨ρ₁, w₁, a₁, ms, ht₁, hz₁, hst₁, hd₁, hs₁, hm₁, .of_steps (.one stepR_seq) ?_⟩
      cases e with
      | normal => exact absurd hr (hne _ _)
      | exit id => obtain ⟨k', e', h'⟩ := hl₁; exact ⟨k', by rw [e', exitTo_skip (by simp)], h'⟩
      | ret => exact hl₁
  | cond x y z =>
    simp only [compCode] at hc
    cases hox : opdOk x with
    | false => rw [hox] at hc; cases hc
    | true =>
      rw [hox] at hc
      simp only [cond_true] at hc
      split at hc
      case h_2 => cases hc
      rename_i cy cz hy hz
      cases hc
      simp only [execStep] at hr
      split at hr
      · rename_i t ht'
        have hbt := (bool_rel (ev_rel hg ht hox) (b := t)).1 ht'
        cases t with
        | true =>
          exact .of_steps (.one (stepR_cond hbt)) (hC y cy tm σ e tm' σ' ρ w b a k cs hb hy hr ht hw hg hm)
        | false =>
          exact .of_steps (.one (stepR_cond hbt)) (hC z cz tm σ e tm' σ' ρ w b a k cs hb hz hr ht hw hg hm)
      · cases hr
  | block id x =>
    simp only [compCode, Option.map_eq_some_iff] at hc
    obtain ⟨cx, hx, rfl⟩ := hc
    simp only [execStep] at hr
    split at hr
    · rename_i id' tm₁ σ₁ hrx
      obtain ⟨ρ₁, w₁, a₁, ms, ht₁, hz₁, hst₁, hd₁, hs₁, hm₁, k', he', hl₁⟩ := hC x cx tm σ (.exit id') tm₁ σ₁ ρ w b a (.inBlock id :: k) cs hb hx hrx ht hw hg hm
      cases hid : Nat.beq id' id with
      | true =>
        rw [hid] at hr
        simp only [cond_true, Option.some.injEq, Prod.mk.injEq] at hr
        obtain ⟨rfl, rfl, rfl⟩ := hr
        have hid' : id = id' := (Nat.eq_of_beq_eq_true hid).symm
        refine ⟨ρ₁, w₁, a₁, ms, ht₁, hz₁, hst₁, hd₁, hs₁, hm₁, ?_⟩
        refine Steps.trans (.one stepR_block) (Steps.trans hl₁ (.one (stepR_exit ?_)))
        rw [he']; simp [exitTo, hid']
      | false =>
        rw [hid] at hr
        simp only [cond_false, Option.some.injEq, Prod.mk.injEq] at hr
        obtain ⟨rfl, rfl, rfl⟩ := hr
        have hid' : (id == id') = false := by
          rw [Bool.eq_false_iff]; intro h
          have := eq_of_beq h; subst this
          simp at hid
        refine ⟨ρ₁, w₁, a₁, ms, ht₁, hz₁, hst₁, hd₁, hs₁, hm₁, k', ?_, Steps.trans (.one stepR_block) hl₁⟩
        rw [he']; simp only [exitTo, hid']; simp
    · rename_i hne
      obtain ⟨ρ₁, w₁, a₁, ms, ht₁, hz₁, hst₁, hd₁, hs₁, hm₁, hl₁⟩ := hC x cx tm σ e tm' σ' ρ w b a (.inBlock id :: k) cs hb hx hr ht hw hg hm
      refine ⟨ρ₁, w₁, a₁, ms, ht₁, hz₁, hst₁, hd₁, hs₁, hm₁, .of_steps (.one stepR_block) ?_⟩
      cases e with
      | normal => exact Steps.trans hl₁ (.one stepR_inBlock)
      | exit id' => exact absurd hr (hne _ _ _)
      | ret => exact hl₁
  | loop x =>
    simp only [compCode, Option.map_eq_some_iff] at hc
    obtain ⟨cx, hx, rfl⟩ := hc
    simp only [execStep] at hr
    split at hr
    · rename_i tm₁ σ₁ hrx
      obtain ⟨ρ₁, w₁, a₁, ms, ht₁, hz₁, hst₁, hd₁, hs₁, hm₁, hl₁⟩ := hC x cx tm σ .normal tm₁ σ₁ ρ w b a (.inLoop x :: k) cs hb hx hrx ht hw hg hm
      have h2 := hC (.loop x) (.loop cx) tm₁ σ₁ e tm' σ' ρ₁ w₁ b a₁ k cs hb (by simp only [compCode, hz₁, hx]; rfl) hr ht₁ hst₁.rel (hg.mono hst₁.le) hm₁
      have hbody : Steps P (lone (b.atR a (.code (.loop x) :: k)) cs w) (lone (b.atR a₁ (.code x :: .inLoop x :: k)) cs w₁) :=
        Steps.trans (.one stepR_loop) (Steps.trans hl₁ (.one stepR_inLoop))
      refine .then hst₁ hz₁ hd₁ hs₁ ?_
      obtain ⟨ρ₂, w₂, a₂, ms₂, ht₂, hz₂, hst₂, hd₂, hs₂, hm₂, hl₂⟩ := h2
      refine ⟨ρ₂, w₂, a₂, ms₂, ht₂, hz₂, hst₂, hd₂, hs₂, hm₂, .of_steps hbody ?_⟩
      cases e with
      | normal => exact Steps.tail hl₂ stepR_loop (lone_ne (fun e => by have := congrArg List.length e; simp at this))
      | exit id => obtain ⟨k', e', h'⟩ := hl₂; exact ⟨k', e', Steps.tail h' stepR_loop (lone_ne (by simp))⟩
      | ret => obtain ⟨k', h'⟩ := hl₂; exact ⟨k', Steps.tail h' stepR_loop (lone_ne (by simp))⟩
    · rename_i hne
      obtain ⟨ρ₁, w₁, a₁, ms, ht₁, hz₁, hst₁, hd₁, hs₁, hm₁, hl₁⟩ := hC x cx tm σ e tm' σ' ρ w b a (.inLoop x :: k) cs hb hx hr ht hw hg hm
      refine ⟨ρ₁, w₁, a₁, ms, ht₁, hz₁, hst₁, hd₁, hs₁, hm₁, .of_steps (.one stepR_loop) ?_⟩
      cases e with
      | normal => exact absurd hr (hne _ _)
      | exit id => obtain ⟨k', e', h'⟩ := hl₁; exact ⟨k', by rw [e', exitTo_skip (by simp)], h'⟩
      | ret => exact hl₁
  | scope x =>
    simp only [compCode, Option.map_eq_some_iff] at hc
    obtain ⟨cx, hx, rfl⟩ := hc
    simp only [execStep] at hr
    obtain ⟨ρ₁, w₁, a₁, ms, ht₁, hz₁, hst₁, hd₁, hs₁, hm₁, hl₁⟩ := hC x cx tm σ e tm' σ' ρ w b a (.inScope x :: k) cs hb hx hr ht hw hg hm
    refine ⟨ρ₁, w₁, a₁, ms, ht₁, hz₁, hst₁, hd₁, hs₁, hm₁, .of_steps (.one stepR_scope) ?_⟩
    cases e with
    | normal => exact Steps.trans hl₁ (.one stepR_inScope)
    | exit id => obtain ⟨k', e', h'⟩ := hl₁; exact ⟨k', by rw [e', exitTo_skip (by simp)], h'⟩
    | ret => exact hl₁
  | rangeFunc f ps x y => exact rangeFunc_ok hF hb hc hr ht hw hg hm
  | _ => simp [compCode] at hc

theorem exec_ok {F : FuncId → Option AFunc} (hT : TableOK P mts F) (hD : DrawOK P mts F) : ∀ n, CodeOK P mts (exec F n) := by
  intro n
  induction n with
  | zero => intro mc c tm σ e tm' σ' ρ w b a k cs _ _ hr; simp [exec] at hr
  | succ n ih => exact step_ok hD ih (funs_ok hT ih)

/-- **What the abstract machine's call gives, the model's call gives.** -/
theorem call_sound {F : FuncId → Option AFunc} (hT : TableOK P mts F) (hD : DrawOK P mts F) {n : Nat} {f : FuncId} {args : List Value} {σ : AW} {v : Value} {σ' : AW} (hr : call F n f args σ = some (v, σ'))
    {ρ : Rho} {w : World} {args' : Array Value} (ha : LRel ρ args args'.toList) (hw : WRel P mts ρ σ w) (hg : GlobOK ρ) : CallsOK P mts ρ σ w f args' v σ' :=
  (funs_ok hT (exec_ok hT hD n) f args σ v σ' hr).2 ρ w args' ha hw hg

end
end Go.AM
