/- What a run of the abstract machine comes to: the rules are sound. -/
import Derived.Test.YtcclefkkjboaeaaGreatDoorAWp

namespace Go.AM
open Go

/-! ### Two renamings, one behind the other -/

mutual
theorem ren_comp (r s : Nat → Nat) : ∀ v : Value, ren (fun b => r (s b)) v = ren r (ren s v)
  | .bool _ => by simp [ren]
  | .int _ _ => by simp [ren]
  | .float _ _ => by simp [ren]
  | .complex _ _ _ => by simp [ren]
  | .string _ => by simp [ren]
  | .pointer a => by cases a <;> simp [ren, renAd]
  | .slice a n c => by cases a <;> simp [ren, renAd]
  | .map m => by cases m <;> simp [ren]
  | .chan _ => by simp [ren]
  | .func f a b => by
    simp only [ren, renA_comp r s a, renA_comp r s b]
    cases f <;> simp [renFn]
  | .nilFunc => by simp [ren]
  | .iface t v => by simp [ren, ren_comp r s v]
  | .nilIface => by simp [ren]
  | .agg a => by simp [ren, renA_comp r s a]
  | .tuple a => by simp [ren, renA_comp r s a]
theorem renA_comp (r s : Nat → Nat) : ∀ a : Array Value, renA (fun b => r (s b)) a = renA r (renA s a)
  | ⟨l⟩ => by simp [renA, renL_comp r s l]
theorem renL_comp (r s : Nat → Nat) : ∀ l : List Value, renL (fun b => r (s b)) l = renL r (renL s l)
  | [] => by simp [renL]
  | v :: l => by simp [renL, ren_comp r s v, renL_comp r s l]
end

mutual
theorem ren_id : ∀ v : Value, ren (fun b => b) v = v
  | .bool _ => by simp [ren]
  | .int _ _ => by simp [ren]
  | .float _ _ => by simp [ren]
  | .complex _ _ _ => by simp [ren]
  | .string _ => by simp [ren]
  | .pointer a => by cases a <;> simp [ren, renAd]
  | .slice a n c => by cases a <;> simp [ren, renAd]
  | .map m => by cases m <;> simp [ren]
  | .chan _ => by simp [ren]
  | .func f a b => by
    simp only [ren, renA_id a, renA_id b]
    cases f <;> simp [renFn]
  | .nilFunc => by simp [ren]
  | .iface t v => by simp [ren, ren_id v]
  | .nilIface => by simp [ren]
  | .agg a => by simp [ren, renA_id a]
  | .tuple a => by simp [ren, renA_id a]
theorem renA_id : ∀ a : Array Value, renA (fun b => b) a = a
  | ⟨l⟩ => by simp [renA, renL_id l]
theorem renL_id : ∀ l : List Value, renL (fun b => b) l = l
  | [] => by simp [renL]
  | v :: l => by simp [renL, ren_id v, renL_id l]
end

theorem renT_id : ∀ t : T Value, renT (fun b => b) t = t
  | .leaf => rfl
  | .node v a b => by
    simp only [renT, renT_id a, renT_id b]
    cases v <;> simp [ren_id]

theorem renO_id (o : AObj) : renO (fun b => b) o = o := by
  cases o with
  | cells c e z ro => simp [renO, List.map_congr_left (fun x (_ : x ∈ c) => ren_id x)]
  | map es k =>
    have : es.map (renE fun b => b) = es := by
      rw [List.map_congr_left (g := id) (fun x _ => by simp [renE, ren_id]), List.map_id]
    simp [renO, this]
  | loop L => simp [renO, renT_id]
  | dead => rfl

theorem renT_comp (r s : Nat → Nat) : ∀ t : T Value, renT (fun b => r (s b)) t = renT r (renT s t)
  | .leaf => rfl
  | .node v a b => by
    simp only [renT, renT_comp r s a, renT_comp r s b]
    cases v <;> simp [ren_comp]

theorem renO_comp (r s : Nat → Nat) (o : AObj) : renO (fun b => r (s b)) o = renO r (renO s o) := by
  cases o with
  | cells c e z ro => simp [renO, ren_comp]
  | map es k => simp [renO, renE, ren_comp, Function.comp_def]
  | loop L => simp [renO, renT_comp]
  | dead => rfl

theorem Emb.comp {r s : Nat → Nat} {σ2 σ τ : AW} (h : Emb s σ2 σ) (h' : Emb r σ τ) : Emb (fun b => r (s b)) σ2 τ where
  fresh := h.fresh
  next := fun k => by show r (s _) = _; rw [h.next, h'.next]
  get := fun b o hb => by
    rw [renO_comp]; exact h'.get _ _ (h.get b o hb)
  inj := fun b b' o o' hb hb' e => h.inj b b' o o' hb hb' (h'.inj _ _ _ _ (h.get b o hb) (h.get b' o' hb') e)
  lt := fun b o hb => h'.lt _ _ (h.get b o hb)

section
variable {F : FuncId → Option AFunc} {m : Nat}

/-! ### Bookkeeping -/

theorem Rel.put {r : Nat → Nat} {env : Env} {σ τ : AW} {tm : T Value} (h : Rel m r env σ τ tm) {v : Value} (hv : WfV σ.next v) (d : Option Nat) : Rel m r (ePut env d v) σ τ (putD tm d (ren r v)) := by
  cases d with
  | none => exact h
  | some d =>
    refine { h with tmp := fun k w hk => ?_, wfe := fun k w hk => ?_ }
    · simp only [ePut, eGet_cons] at hk
      simp only [putD, T.get_set]
      split at hk
      · rename_i e; subst e; cases hk; simp
      · rename_i e
        rw [if_neg (fun e' => e e'.symm)]; exact h.tmp k w hk
    · simp only [ePut, eGet_cons] at hk
      split at hk
      · cases hk; exact hv
      · exact h.wfe k w hk

theorem Rel.step {r r' : Nat → Nat} {env : Env} {σ τ σ' τ' : AW} {tm : T Value} (h : Rel m r env σ τ tm) (ag : ∀ b, b < σ.next → r' b = r b) (z : r' 0 = 0) (emb : Emb r' σ' τ') (wf : WfH σ') (le : σ.next ≤ σ'.next) : Rel m r' env σ' τ' tm where
  z := z
  emb := emb
  tmp := fun k v hk => by rw [ren_agree (h.wfe k v hk) ag]; exact h.tmp k v hk
  wf := wf
  wfe := fun k v hk => (h.wfe k v hk).mono le
  le := Nat.le_trans h.le le
  pos := h.pos

theorem Rel.known {r : Nat → Nat} {env : Env} {σ τ : AW} {tm : T Value} (h : Rel m r env σ τ tm) {t : Nat} {v w : Value} (hk : eGet env t = some v) (e : w = v) : Rel m r ((t, w) :: env) σ τ tm := by
  subst e
  refine { h with tmp := fun k v hk' => ?_, wfe := fun k v hk' => ?_ }
  · simp only [eGet_cons] at hk'
    split at hk'
    · rename_i e; subst e; cases hk'; exact h.tmp _ _ hk
    · exact h.tmp k v hk'
  · simp only [eGet_cons] at hk'
    split at hk'
    · cases hk'; exact h.wfe _ _ hk
    · exact h.wfe k v hk'

theorem Rel.val {r : Nat → Nat} {env : Env} {σ τ : AW} {tm : T Value} (h : Rel m r env σ τ tm) {x : Operand} {v : Value} (hx : eVal env x = some v) (ho : opdOk x = true) : aev tm x = ren r v ∧ (WfV σ.next v) := by
  cases x with
  | tmp t =>
    have := h.tmp t v hx
    exact ⟨by simp [aev, this], h.wfe t v hx⟩
  | const c =>
    simp only [eVal, Option.some.injEq] at hx; subst hx
    exact ⟨(const_ren r ho).symm, wf_const fun r => const_ren r ho⟩
  | global g =>
    simp only [eVal, Option.some.injEq] at hx; subst hx
    simp only [opdOk, Nat.blt_eq] at ho
    have : g = 0 := by omega
    subst this
    exact ⟨by simp [aev, ren, renAd, h.z], wf_ptr (Nat.lt_of_lt_of_le h.pos h.le)⟩
  | func f =>
    simp only [eVal, Option.some.injEq] at hx; subst hx
    exact ⟨by simp [aev, ren, renFn, renA, renL], wf_func.2 ⟨wfL_nil, wfL_nil⟩⟩


theorem Rel.vals {r : Nat → Nat} {env : Env} {σ τ : AW} {tm : T Value} (h : Rel m r env σ τ tm) : ∀ {l : List Operand} {vs : List Value}, eVals env l = some vs → l.all opdOk = true → l.map (aev tm) = vs.map (ren r) ∧ WfL σ.next vs
  | [], vs, e, _ => by simp only [eVals, Option.some.injEq] at e; subst e; exact ⟨rfl, wfL_nil⟩
  | x :: l, vs, e, ho => by
    simp only [List.all_cons, Bool.and_eq_true] at ho
    simp only [eVals] at e
    split at e
    · rename_i v vs' h1 h2
      cases e
      obtain ⟨a1, a2⟩ := h.val h1 ho.1
      obtain ⟨b1, b2⟩ := h.vals h2 ho.2
      exact ⟨by simp [a1, b1], wfL_cons.2 ⟨a2, b2⟩⟩
    · cases e

/-! ### Operations -/

/-- What an operation of the code comes to. -/
def StepOK (F : FuncId → Option AFunc) (m : Nat) (r : Nat → Nat) (σ τ : AW) (run : Exec → Option (T Value × AW)) (Q : Env → AW → Prop) : Prop :=
  ∃ n tm' τ' r' env' σ', run (exec F n) = some (tm', τ') ∧ Q env' σ' ∧ Rel m r' env' σ' τ' tm' ∧ Tr m r σ τ r' σ' τ'

theorem eVals_some {env : Env} : ∀ {l : List Operand} {vs : List Value}, eVals env l = some vs → (∀ x ∈ l, ∃ v, eVal env x = some v) ∧ l.map (eEv env) = vs
  | [], vs, e => by simp only [eVals, Option.some.injEq] at e; subst e; exact ⟨fun x h => (by cases h), rfl⟩
  | x :: l, vs, e => by
    simp only [eVals] at e
    split at e
    · rename_i v vs' h1 h2
      cases e
      obtain ⟨a1, a2⟩ := eVals_some h2
      refine ⟨fun y hy => ?_, by simp [eEv, h1, ← a2]⟩
      rcases List.mem_cons.1 hy with rfl | hy
      · exact ⟨v, h1⟩
      · exact a1 y hy
    · cases e

theorem eFill_some {env : Env} : ∀ {ps : List (Nat × Nat × Operand)} {cs cs' : List Value}, eFill env cs ps = some cs' → (∀ x ∈ ps.map (·.2.2), ∃ v, eVal env x = some v) ∧ aFill (eEv env) cs ps = some cs'
  | [], cs, cs', e => ⟨fun x h => (by cases h), e⟩
  | (off, size, x) :: ps, cs, cs', e => by
    simp only [eFill] at e
    split at e
    · rename_i v hv
      have hx : eEv env x = v := by simp [eEv, hv]
      cases hl : lenIs (vcells v) size
      · rw [hl] at e; cases e
      · rw [hl] at e
        simp only [cond_true] at e
        split at e
        · rename_i c1 hs
          obtain ⟨a1, a2⟩ := eFill_some e
          refine ⟨fun y hy => ?_, by simp only [aFill, hx, hl, cond_true, hs, a2]⟩
          rcases List.mem_cons.1 hy with rfl | hy
          · exact ⟨v, hv⟩
          · exact a1 y hy
        · cases e
    · cases e

theorem eOpt_some {env : Env} {o : Option Operand} {v : Option Value} (h : eOpt env o = some v) : (∀ x ∈ o.toList, ∃ w, eVal env x = some w) ∧ o.map (eEv env) = v := by
  cases o with
  | none => simp only [eOpt, Option.some.injEq] at h; subst h; exact ⟨fun x h => (by cases h), rfl⟩
  | some x =>
    simp only [eOpt, Option.map_eq_some_iff] at h
    obtain ⟨w, hw, rfl⟩ := h
    exact ⟨fun y hy => by simp at hy; subst hy; exact ⟨w, hw⟩, by simp [eEv, hw]⟩

theorem guardB_to {o : Option Value} {K : Bool → Prop} (h : guardB o K) : ∃ b, o = some (.bool b) ∧ K b := by
  unfold guardB at h
  split at h
  · exact ⟨_, rfl, h⟩
  · exact h.elim

def isCallOp : AOp → Bool
  | .call .. => true
  | .invoke .. => true
  | .mov .. => false
  | .pick .. => false
  | .alloc .. => false
  | .box .. => false
  | .build .. => false
  | .buildSlice .. => false
  | .load1 .. => false
  | .loadN .. => false
  | .store .. => false
  | .nilCheck .. => false
  | .bin .. => false
  | .un .. => false
  | .convInt .. => false
  | .convStr .. => false
  | .convBytesStr .. => false
  | .convStrBytes .. => false
  | .makeIface .. => false
  | .makeFunc .. => false
  | .makeMap => false
  | .makeSlice .. => false
  | .slice .. => false
  | .fieldAddr .. => false
  | .field .. => false
  | .indexAddrArr .. => false
  | .indexAddrSl .. => false
  | .indexStr .. => false
  | .indexArr .. => false
  | .lookup .. => false
  | .mapUpdate .. => false
  | .extract .. => false
  | .lenStr .. => false
  | .lenSl .. => false
  | .lenMap .. => false
  | .append .. => false
  | .copy .. => false
  | .clear .. => false
  | .delete .. => false
  | .minmax .. => false

theorem aopE_to {op : AOp} {env : Env} {σ : AW} {v : Value} {σ' : AW} (h : aopE env op σ = some (v, σ')) : okOpds env op ∧ aop (eEv env) op σ = some (v, σ') := by
  have ok1 : ∀ {x : Operand} {v : Value}, eVal env x = some v → ∀ y ∈ [x], ∃ w, eVal env y = some w := by
    intro x v h y hy; simp at hy; subst hy; exact ⟨v, h⟩
  have ok2 : ∀ {x x' : Operand} {v v' : Value}, eVal env x = some v → eVal env x' = some v' → ∀ y ∈ [x, x'], ∃ w, eVal env y = some w := by
    intro x x' v v' h h' y hy; simp at hy; rcases hy with rfl | rfl
    · exact ⟨v, h⟩
    · exact ⟨v', h'⟩
  have ok3 : ∀ {x x' x'' : Operand} {v v' v'' : Value}, eVal env x = some v → eVal env x' = some v' → eVal env x'' = some v'' → ∀ y ∈ [x, x', x''], ∃ w, eVal env y = some w := by
    intro x x' x'' v v' v'' h h' h'' y hy; simp at hy; rcases hy with rfl | rfl | rfl
    · exact ⟨v, h⟩
    · exact ⟨v', h'⟩
    · exact ⟨v'', h''⟩
  have ev : ∀ {x : Operand} {v : Value}, eVal env x = some v → eEv env x = v := by intro x v h; simp [eEv, h]
  cases op with
  | mov x =>
    simp only [aopE, Option.map_eq_some_iff] at h
    obtain ⟨w, h1, h2⟩ := h
    exact ⟨ok1 h1, by simp only [aop, ev h1, h2]⟩
  | pick c a b =>
    simp only [aopE] at h
    split at h
    · rename_i t x y h1 h2 h3
      refine ⟨ok3 h1 h2 h3, ?_⟩
      simpa only [aop, ev h1, ev h2, ev h3] using h
    · cases h
  | alloc e z => exact ⟨fun y hy => (by cases hy), h⟩
  | box e x =>
    simp only [aopE, Option.map_eq_some_iff] at h
    obtain ⟨w, h1, h2⟩ := h
    exact ⟨ok1 h1, by simp only [aop, ev h1, h2]⟩
  | build z ps =>
    simp only [aopE, Option.map_eq_some_iff] at h
    obtain ⟨cs, h1, h2⟩ := h
    obtain ⟨a1, a2⟩ := eFill_some h1
    exact ⟨a1, by simp only [aop, a2, Option.map_some, h2]⟩
  | buildSlice e len z ps =>
    simp only [aopE, Option.map_eq_some_iff] at h
    obtain ⟨cs, h1, h2⟩ := h
    obtain ⟨a1, a2⟩ := eFill_some h1
    exact ⟨a1, by simp only [aop, a2, Option.map_some, h2]⟩
  | load1 a =>
    simp only [aopE] at h
    split at h
    · rename_i p h1
      exact ⟨ok1 h1, by simp only [aop, ev h1]; exact h⟩
    · cases h
  | loadN n a =>
    simp only [aopE] at h
    split at h
    · rename_i p h1
      exact ⟨ok1 h1, by simpa only [aop, ev h1] using h⟩
    · cases h
  | store n a x =>
    simp only [aopE] at h
    split at h
    · rename_i p w h1 h2
      refine ⟨ok2 h1 h2, ?_⟩
      split at h
      · rename_i h3; simpa only [aop, ev h1, ev h2, h3, cond_true] using h
      · cases h
    · cases h
  | nilCheck x =>
    simp only [aopE] at h
    split at h
    · rename_i w h1
      refine ⟨ok1 h1, ?_⟩
      split at h
      · rename_i h2
        unfold nonNil at h2
        split at h2
        · simpa only [aop, ev h1] using h
        · simpa only [aop, ev h1] using h
        · simpa only [aop, ev h1] using h
        · cases h2
      · cases h
    · cases h
  | bin op eq x y =>
    simp only [aopE] at h
    split at h
    · rename_i a b h1 h2
      exact ⟨ok2 h1 h2, by simpa only [aop, ev h1, ev h2] using h⟩
    · cases h
  | un op x =>
    simp only [aopE] at h
    split at h
    · rename_i a h1
      exact ⟨ok1 h1, by simpa only [aop, ev h1] using h⟩
    · cases h
  | convInt k x =>
    simp only [aopE] at h
    split at h
    · rename_i k' n h1
      exact ⟨ok1 h1, by simpa only [aop, ev h1] using h⟩
    · cases h
  | convStr x =>
    simp only [aopE] at h
    split at h
    · rename_i n h1
      exact ⟨ok1 h1, by simpa only [aop, ev h1] using h⟩
    · cases h
  | convBytesStr x =>
    simp only [aopE] at h
    split at h
    · rename_i w h1
      refine ⟨ok1 h1, ?_⟩
      simp only [Option.map_eq_some_iff] at h
      obtain ⟨s, h2, h3⟩ := h
      unfold aBytesStr at h2
      split at h2
      · cases h2; simp only [aop, ev h1, h3]
      · split at h2
        · rename_i cs hl
          simp only [Option.map_eq_some_iff] at h2
          obtain ⟨l, hb, rfl⟩ := h2
          simp only [aop, ev h1, hl, hb, Option.map_some, h3]
        · cases h2
      · cases h2
    · cases h
  | convStrBytes e x =>
    simp only [aopE] at h
    split at h
    · rename_i n h1
      exact ⟨ok1 h1, by simpa only [aop, ev h1] using h⟩
    · cases h
  | makeIface t x =>
    simp only [aopE, Option.map_eq_some_iff] at h
    obtain ⟨w, h1, h2⟩ := h
    exact ⟨ok1 h1, by simp only [aop, ev h1, h2]⟩
  | makeFunc f a b =>
    simp only [aopE] at h
    split at h
    · rename_i va vb h1 h2
      obtain ⟨a1, a2⟩ := eVals_some h1
      obtain ⟨b1, b2⟩ := eVals_some h2
      refine ⟨fun y hy => ?_, by simpa only [aop, a2, b2] using h⟩
      simp only [opdsOf, List.mem_append] at hy
      exact hy.elim (a1 y) (b1 y)
    · cases h
  | makeMap => exact ⟨fun y hy => (by cases hy), h⟩
  | makeSlice e esz bytes z l c =>
    simp only [aopE] at h
    split at h
    · rename_i k n k' n' h1 h2
      exact ⟨ok2 h1 h2, by simpa only [aop, ev h1, ev h2] using h⟩
    · cases h
  | slice k x lo hi mx =>
    simp only [aopE] at h
    split at h
    · rename_i a l hh m h1 h2 h3 h4
      obtain ⟨a2, b2⟩ := eOpt_some h2
      obtain ⟨a3, b3⟩ := eOpt_some h3
      obtain ⟨a4, b4⟩ := eOpt_some h4
      refine ⟨fun y hy => ?_, ?_⟩
      · simp only [opdsOf, List.mem_cons, List.mem_append] at hy
        rcases hy with rfl | hy | hy | hy
        · exact ⟨_, h1⟩
        · exact a2 y hy
        · exact a3 y hy
        · exact a4 y hy
      · cases k <;> simpa only [aop, ev h1, b2, b3, b4] using h
    · cases h
  | fieldAddr off x =>
    simp only [aopE] at h
    split at h
    · rename_i a h1
      exact ⟨ok1 h1, by simpa only [aop, ev h1] using h⟩
    · cases h
  | field agg off n x =>
    simp only [aopE] at h
    split at h
    · rename_i a h1
      exact ⟨ok1 h1, by simpa only [aop, ev h1] using h⟩
    · cases h
  | indexAddrArr len esz x i =>
    simp only [aopE] at h
    split at h
    · rename_i a k n h1 h2
      exact ⟨ok2 h1 h2, by simpa only [aop, ev h1, ev h2, aIdx] using h⟩
    · cases h
  | indexAddrSl esz x i =>
    simp only [aopE] at h
    split at h
    · rename_i a len c k n h1 h2
      exact ⟨ok2 h1 h2, by simpa only [aop, ev h1, ev h2, aIdx] using h⟩
    · cases h
  | indexStr x i =>
    simp only [aopE] at h
    split at h
    · rename_i s k n h1 h2
      exact ⟨ok2 h1 h2, by simpa only [aop, ev h1, ev h2, aIdx] using h⟩
    · cases h
  | indexArr agg len esz x i =>
    simp only [aopE] at h
    split at h
    · rename_i a k n h1 h2
      exact ⟨ok2 h1 h2, by simpa only [aop, ev h1, ev h2, aIdx] using h⟩
    · cases h
  | extract x i =>
    simp only [aopE] at h
    split at h
    · rename_i a h1
      exact ⟨ok1 h1, by simpa only [aop, ev h1] using h⟩
    · cases h
  | lenStr x =>
    simp only [aopE] at h
    split at h
    · rename_i a h1
      exact ⟨ok1 h1, by simpa only [aop, ev h1] using h⟩
    · cases h
  | lenSl x =>
    simp only [aopE] at h
    split at h
    · rename_i a n c h1
      exact ⟨ok1 h1, by simpa only [aop, ev h1] using h⟩
    · cases h
  | append e esz bytes s x =>
    simp only [aopE] at h
    split at h
    · rename_i a b h1 h2
      exact ⟨ok2 h1 h2, by simpa only [aop, ev h1, ev h2] using h⟩
    · cases h
  | copy esz d s =>
    simp only [aopE] at h
    split at h
    · rename_i a b h1 h2
      exact ⟨ok2 h1 h2, by simpa only [aop, ev h1, ev h2] using h⟩
    · cases h
  | minmax b x l =>
    simp only [aopE] at h
    split at h
    · rename_i a vs h1 h2
      obtain ⟨b1, b2⟩ := eVals_some h2
      refine ⟨fun y hy => ?_, by simpa only [aop, ev h1, b2] using h⟩
      rcases List.mem_cons.1 hy with rfl | hy
      · exact ⟨_, h1⟩
      · exact b1 y hy
    · cases h
  | lookup pk z ok m k =>
    simp only [aopE] at h
    split at h
    · rename_i a b h1 h2; exact ⟨ok2 h1 h2, h⟩
    · cases h
  | mapUpdate pk m k x =>
    simp only [aopE] at h
    split at h
    · rename_i a b c h1 h2 h3; exact ⟨ok3 h1 h2 h3, h⟩
    · cases h
  | lenMap x =>
    simp only [aopE] at h
    split at h
    · rename_i a h1; exact ⟨ok1 h1, h⟩
    · cases h
  | clear z s =>
    simp only [aopE] at h
    split at h
    · rename_i a h1; exact ⟨ok1 h1, h⟩
    · cases h
  | delete pk m k =>
    simp only [aopE] at h
    split at h
    · rename_i a b h1 h2; exact ⟨ok2 h1 h2, h⟩
    · cases h
  | call f l => cases h
  | invoke x cs l => cases h

theorem wpOpt_to {op : AOp} {env : Env} {σ : AW} {Q : Value → AW → Prop} (h : wpOpt (aopE env op σ) Q) : wpRun0 op env σ Q := by
  unfold wpOpt at h
  split at h
  · rename_i v σ' e
    obtain ⟨a, b⟩ := aopE_to e
    exact ⟨a, v, σ', b, h⟩
  · exact h.elim

theorem wpRun_sound {op : AOp} (hc : opC op = true) {env : Env} {σ : AW} {Q : Value → AW → Prop} (h : wpRun F op env σ Q) {r : Nat → Nat} {τ : AW} {tm : T Value} (hr : Rel m r env σ τ tm) :
    ∃ n v τ' r' σ', aoper F (exec F n) (aev tm) op τ = some (ren r' v, τ') ∧ Q v σ' ∧ WfV σ'.next v ∧ Rel m r' env σ' τ' tm ∧ Tr m r σ τ r' σ' τ' := by
  have hc0 := hc
  simp only [opC, Bool.and_eq_true] at hc
  obtain ⟨ho, -, -⟩ := hc
  have hcall : ∀ {f args}, WfL σ.next args → ACall F f args σ Q → ∃ n v τ' r' σ', callF F (exec F n) f (args.map (ren r)) τ = some (ren r' v, τ') ∧ Q v σ' ∧ WfV σ'.next v ∧ Rel m r' env σ' τ' tm ∧ Tr m r σ τ r' σ' τ' := by
    intro f args hw ha
    obtain ⟨n, τ', r', v, σ', e, hq, hz, he, hwf, hwv, hle, ht⟩ := ha r τ hr.z (Nat.lt_of_lt_of_le hr.pos hr.le) hr.emb hr.wf hw
    exact ⟨n, v, τ', r', σ', e, hq, hwv, hr.step ht.ag hz he hwf hle, ht.mono hr.le⟩
  have plain : (∃ v σ', aop (eEv env) op σ = some (v, σ') ∧ Q v σ') → okOpds env op → (∀ n τ, aoper F (exec F n) (aev tm) op τ = aop (aev tm) op τ) → ∃ n v τ' r' σ', aoper F (exec F n) (aev tm) op τ = some (ren r' v, τ') ∧ Q v σ' ∧ WfV σ'.next v ∧ Rel m r' env σ' τ' tm ∧ Tr m r σ τ r' σ' τ' := by
    intro ⟨v, σ', e, hq⟩ hok hop
    have hv : ∀ x ∈ opdsOf op, aev tm x = ren r (eEv env x) ∧ WfV σ.next (eEv env x) := by
      intro x hx
      obtain ⟨w, hw⟩ := hok x hx
      have := hr.val hw (List.all_eq_true.1 ho x hx)
      simpa [eEv, hw] using this
    obtain ⟨τ', e', hf⟩ := aop_ren hc0 (fun x hx => (hv x hx).1) hr.emb e
    obtain ⟨w1, w2, w3⟩ := aop_wf hc0 hr.wf (fun x hx => (hv x hx).2) e
    exact ⟨0, v, τ', r, σ', by rw [hop]; exact e', hq, w2, hr.step (fun _ _ => rfl) hr.z hf.emb w1 w3, Tr.of_fr hr.emb hf⟩
  cases op with
  | call f l =>
    simp only [wpRun, callK] at h
    split at h
    case h_2 => exact h.elim
    rename_i fv vs h1 h2
    have h3 := h
    simp only [opdsOf, List.all_cons, Bool.and_eq_true] at ho
    obtain ⟨a1, a2⟩ := hr.val h1 ho.1
    obtain ⟨b1, b2⟩ := hr.vals h2 ho.2
    simp only [aoper, a1, b1]
    unfold callVA at h3
    split at h3
    · rename_i f' first captured
      have hw := wf_func.1 a2
      obtain ⟨n, v, τ', r', σ', e, rest⟩ := hcall (wfL_append.2 ⟨wfL_append.2 ⟨hw.1, b2⟩, hw.2⟩) h3
      refine ⟨n, v, τ', r', σ', ?_, rest⟩
      simp only [ren, renFn, callV, renA_toList]
      simpa only [List.map_append] using e
    · exact h3.elim
  | invoke x cs l =>
    simp only [wpRun, invokeK] at h
    split at h
    case h_2 => exact h.elim
    rename_i t v vs h1 h2
    split at h
    case h_2 => exact h.elim
    rename_i f h3
    have h4 := h
    simp only [opdsOf, List.all_cons, Bool.and_eq_true] at ho
    obtain ⟨a1, a2⟩ := hr.val h1 ho.1
    obtain ⟨b1, b2⟩ := hr.vals h2 ho.2
    simp only [aoper, a1, b1, ren, h3]
    exact hcall (wfL_cons.2 ⟨wf_iface.1 a2, b2⟩) h4
  | alloc e z => exact plain (wpOpt_to (op := .alloc e z) h).2 (wpOpt_to (op := .alloc e z) h).1 (fun _ _ => rfl)
  | makeMap => exact plain (wpOpt_to (op := .makeMap) h).2 (wpOpt_to (op := .makeMap) h).1 (fun _ _ => rfl)
  | _ => exact plain (wpOpt_to h).2 (wpOpt_to h).1 (fun _ _ => rfl)

theorem wpOper_sound {o : AOper} (hc : operC o = true) {env : Env} {σ : AW} {Q : Env → AW → Prop} (h : wpOper F o env σ Q) {r : Nat → Nat} {τ : AW} {tm : T Value} (hr : Rel m r env σ τ tm) :
    StepOK F m r σ τ (fun ex => runOper F ex o tm τ) Q := by
  have run : ∀ {env : Env} {Q : Env → AW → Prop}, Rel m r env σ τ tm → wanted tm o.guard = true → wpRun F o.op env σ (fun v σ' => Q (ePut env o.dst v) σ') → StepOK F m r σ τ (fun ex => runOper F ex o tm τ) Q := by
    intro env Q hr hw h
    obtain ⟨n, v, τ', r', σ', e, hq, hwv, hr', ht⟩ := wpRun_sound hc h hr
    refine ⟨n, putD tm o.dst (ren r' v), τ', r', _, σ', ?_, hq, hr'.put hwv o.dst, ht⟩
    simp only [runOper, hw, cond_true, e]
  unfold wpOper at h
  split at h
  · rename_i hg
    exact run hr (by rw [hg]; rfl) h
  · rename_i t w hg
    obtain ⟨b, hb, h1, h2⟩ := guardB_to h
    have htm := hr.tmp t _ hb
    by_cases hbw : b = w
    · exact run (hr.known hb (by rw [hbw])) (by rw [hg]; simp [wanted, htm, ren, hbw]) (h1 hbw)
    · have hbw' : b = !w := by cases b <;> cases w <;> simp_all
      have hput := (hr.known hb (w := .bool !w) (by rw [hbw'])).put wf_undef o.dst
      rw [ren_undef] at hput
      refine ⟨0, putD tm o.dst undef, τ, r, _, σ, ?_, h2 hbw', hput, Tr.refl ..⟩
      simp only [runOper, hg, wanted, htm, ren]
      have : (b == w) = false := by simpa using hbw
      simp [this]

theorem wpOps_sound : ∀ {l : List AOper}, l.all operC = true → ∀ {env : Env} {σ : AW} {Q : Env → AW → Prop}, wpOps F l env σ Q → ∀ {r : Nat → Nat} {τ : AW} {tm : T Value}, Rel m r env σ τ tm →
    StepOK F m r σ τ (fun ex => runOps F ex l tm τ) Q
  | [], _, env, σ, Q, h, r, τ, tm, hr => ⟨0, tm, τ, r, env, σ, rfl, h, hr, Tr.refl ..⟩
  | o :: l, hc, env, σ, Q, h, r, τ, tm, hr => by
    simp only [List.all_cons, Bool.and_eq_true] at hc
    obtain ⟨n, tm1, τ1, r1, env1, σ1, e, hq, hr1, ht⟩ := wpOper_sound hc.1 h hr
    obtain ⟨n2, tm2, τ2, r2, env2, σ2, e2, hq2, hr2, ht2⟩ := wpOps_sound hc.2 hq hr1
    refine ⟨n + n2, tm2, τ2, r2, env2, σ2, ?_, hq2, hr2, ht.trans ht2⟩
    simp only [runOps]
    rw [runOper_le (exec_le F (Nat.le_add_right n n2)) e]
    exact runOps_le (exec_le F (Nat.le_add_left n2 n)) e2

theorem wpAgain_sound {env : Env} {σ : AW} {r : Nat → Nat} {τ : AW} {tm : T Value} (hr : Rel m r env σ τ tm) : ∀ {l : List AOper}, l.all operC = true → wpAgain env σ l → runAgain l tm τ = true
  | [], _, _ => rfl
  | o :: l, hc, h => by
    simp only [List.all_cons, Bool.and_eq_true] at hc
    obtain ⟨h1, h2⟩ := h
    simp only [runAgain, Bool.and_eq_true]
    refine ⟨?_, wpAgain_sound hr hc.2 h2⟩
    have key : againK (aopE env o.op σ) (o.dst.bind (eGet env)) → (match aop (aev tm) o.op τ, o.dst with
        | some (v, _), some d => match tm.get d with
          | some v' => veq v v'
          | none => false
        | _, _ => false) = true := by
      intro hk
      unfold againK at hk
      split at hk
      case h_2 => exact hk.elim
      rename_i v σ1 w e hw
      obtain ⟨rfl, hv⟩ := hk
      obtain ⟨hok, e⟩ := aopE_to e
      simp only [Option.bind_eq_some_iff] at hw
      obtain ⟨d, hd, hg⟩ := hw
      have hc0 := hc.1
      have ho := hc.1
      simp only [operC, opC, Bool.and_eq_true] at ho
      have hvx : ∀ x ∈ opdsOf o.op, aev tm x = ren r (eEv env x) := by
        intro x hx
        obtain ⟨w, hw⟩ := hok x hx
        have := (hr.val hw (List.all_eq_true.1 ho.1 x hx)).1
        simpa [eEv, hw] using this
      obtain ⟨τ', e', -⟩ := aop_ren hc0 hvx hr.emb e
      rw [e', hd]
      simp only [hr.tmp d v hg]
      exact veq_ren _ _ hv
    split at h1
    · rename_i hg
      simp only [hg, wanted, cond_true]
      exact key h1
    · rename_i t w hg
      obtain ⟨b, hb, h1⟩ := guardB_to h1
      have htm := hr.tmp t _ hb
      simp only [hg, wanted, htm, ren]
      by_cases hbw : b = w
      · simp only [hbw, beq_self_eq_true, cond_true]
        exact key (h1 hbw)
      · have : (b == w) = false := by simpa using hbw
        simp [this]

theorem wpDraw_sound : ∀ {l : List DOper}, (l.all fun d => operC d.op && d.again.all operC) = true → ∀ {env : Env} {σ : AW} {Q : Env → AW → Prop}, wpDraw F l env σ Q → ∀ {r : Nat → Nat} {τ : AW} {tm : T Value}, Rel m r env σ τ tm →
    StepOK F m r σ τ (fun ex => runDraw F ex l tm τ) Q
  | [], _, env, σ, Q, h, r, τ, tm, hr => ⟨0, tm, τ, r, env, σ, rfl, h, hr, Tr.refl ..⟩
  | o :: l, hc, env, σ, Q, h, r, τ, tm, hr => by
    simp only [List.all_cons, Bool.and_eq_true] at hc
    obtain ⟨n, tm1, τ1, r1, env1, σ1, e, ⟨ha, hq⟩, hr1, ht⟩ := wpOper_sound hc.1.1 h hr
    obtain ⟨n2, tm2, τ2, r2, env2, σ2, e2, hq2, hr2, ht2⟩ := wpDraw_sound hc.2 hq hr1
    refine ⟨n + n2, tm2, τ2, r2, env2, σ2, ?_, hq2, hr2, ht.trans ht2⟩
    simp only [runDraw]
    rw [runOper_le (exec_le F (Nat.le_add_right n n2)) e]
    simp only [wpAgain_sound hr1 hc.1.2 ha, cond_true]
    exact runDraw_le (exec_le F (Nat.le_add_left n2 n)) e2

/-! ### Code -/

theorem exec_le' {n n' : Nat} {c : ACode} {tm : T Value} {σ : AW} {x : AExit × T Value × AW} (h : exec F n c tm σ = some x) (hn : n ≤ n') : exec F n' c tm σ = some x := exec_le F hn _ _ _ _ h

/-- **What the rules say of a code, its runs do.** -/
theorem wp_sound : ∀ {c : ACode}, codeC c = true → ∀ {env : Env} {σ : AW} {Q : AExit → Env → AW → Prop}, wp F m c env σ Q → WP F m c env σ Q
  | .skip, _, env, σ, Q, h => fun r τ tm hr => ⟨1, .normal, tm, τ, r, env, σ, rfl, h, hr, Tr.refl ..⟩
  | .label l, _, env, σ, Q, h => fun r τ tm hr => ⟨1, .normal, tm, τ, r, env, σ, rfl, h, hr, Tr.refl ..⟩
  | .exit id, _, env, σ, Q, h => fun r τ tm hr => ⟨1, .exit id, tm, τ, r, env, σ, rfl, h, hr, Tr.refl ..⟩
  | .ret, _, env, σ, Q, h => fun r τ tm hr => ⟨1, .ret, tm, τ, r, env, σ, rfl, h, hr, Tr.refl ..⟩
  | .ops l, hc, env, σ, Q, h => fun r τ tm hr => by
    obtain ⟨n, tm1, τ1, r1, env1, σ1, e, rest⟩ := wpOps_sound hc h hr
    refine ⟨n + 1, .normal, tm1, τ1, r1, env1, σ1, ?_, rest⟩
    simp only [exec, execStep, e, Option.map_some]
  | .draw l, hc, env, σ, Q, h => fun r τ tm hr => by
    obtain ⟨n, tm1, τ1, r1, env1, σ1, e, rest⟩ := wpDraw_sound hc h hr
    refine ⟨n + 1, .normal, tm1, τ1, r1, env1, σ1, ?_, rest⟩
    simp only [exec, execStep, e, Option.map_some]
  | .seq a b, hc, env, σ, Q, h => fun r τ tm hr => by
    simp only [codeC, Bool.and_eq_true] at hc
    obtain ⟨n, e, tm1, τ1, r1, env1, σ1, hx, hq, hr1, ht⟩ := wp_sound hc.1 h r τ tm hr
    cases e with
    | normal =>
      obtain ⟨n2, e2, tm2, τ2, r2, env2, σ2, hx2, hq2, hr2, ht2⟩ := wp_sound hc.2 hq r1 τ1 tm1 hr1
      refine ⟨n + n2 + 1, e2, tm2, τ2, r2, env2, σ2, ?_, hq2, hr2, ht.trans ht2⟩
      simp only [exec, execStep, exec_le' hx (Nat.le_add_right n n2), exec_le' hx2 (Nat.le_add_left n2 n)]
    | exit id => exact ⟨n + 1, .exit id, tm1, τ1, r1, env1, σ1, by simp only [exec, execStep, hx], hq, hr1, ht⟩
    | ret => exact ⟨n + 1, .ret, tm1, τ1, r1, env1, σ1, by simp only [exec, execStep, hx], hq, hr1, ht⟩
  | .cond c a b, hc, env, σ, Q, h => fun r τ tm hr => by
    simp only [codeC, Bool.and_eq_true] at hc
    obtain ⟨t, hb, h1, h2⟩ := guardB_to h
    have hv := (hr.val hb hc.1).1
    simp only [ren] at hv
    cases t with
    | true =>
      obtain ⟨n, e, tm1, τ1, r1, env1, σ1, hx, rest⟩ := wp_sound hc.2.1 (h1 rfl) r τ tm hr
      exact ⟨n + 1, e, tm1, τ1, r1, env1, σ1, by simp only [exec, execStep, hv, cond_true, hx], rest⟩
    | false =>
      obtain ⟨n, e, tm1, τ1, r1, env1, σ1, hx, rest⟩ := wp_sound hc.2.2 (h2 rfl) r τ tm hr
      exact ⟨n + 1, e, tm1, τ1, r1, env1, σ1, by simp only [exec, execStep, hv, cond_false, hx], rest⟩
  | .block id b, hc, env, σ, Q, h => fun r τ tm hr => by
    simp only [codeC] at hc
    obtain ⟨n, e, tm1, τ1, r1, env1, σ1, hx, hq, hr1, ht⟩ := wp_sound hc h r τ tm hr
    cases e with
    | normal => exact ⟨n + 1, .normal, tm1, τ1, r1, env1, σ1, by simp only [exec, execStep, hx], hq, hr1, ht⟩
    | ret => exact ⟨n + 1, .ret, tm1, τ1, r1, env1, σ1, by simp only [exec, execStep, hx], hq, hr1, ht⟩
    | exit id' =>
      simp only [blockK] at hq
      by_cases e : id' = id
      · subst e
        simp only [if_true] at hq
        exact ⟨n + 1, .normal, tm1, τ1, r1, env1, σ1, by simp [exec, execStep, hx], hq, hr1, ht⟩
      · rw [if_neg e] at hq
        have hb : Nat.beq id' id = false := Bool.eq_false_iff.2 fun h => e (Nat.eq_of_beq_eq_true h)
        exact ⟨n + 1, .exit id', tm1, τ1, r1, env1, σ1, by simp only [exec, execStep, hx, hb, cond_false], hq, hr1, ht⟩
  | .scope b, hc, env, σ, Q, h => fun r τ tm hr => by
    obtain ⟨n, e, tm1, τ1, r1, env1, σ1, hx, rest⟩ := wp_sound (c := b) hc h r τ tm hr
    exact ⟨n + 1, e, tm1, τ1, r1, env1, σ1, by simp only [exec, execStep, hx], rest⟩
  | .loop b, _, env, σ, Q, h => h
  | .rangeFunc f ps a b, _, env, σ, Q, h => h
  | .bad, _, env, σ, Q, h => h.elim

/-! ### Less is known -/

def eLe (env2 env : Env) : Prop := ∀ k v, eGet env2 k = some v → eGet env k = some v

theorem eLe_nil (env : Env) : eLe [] env := fun k v h => by cases h
theorem eLe_cons {k : Nat} {v : Value} {l env : Env} (h : eGet env k = some v) (hl : eLe l env) : eLe ((k, v) :: l) env := fun j w hj => by
  simp only [eGet_cons] at hj
  split at hj
  · rename_i e; subst e; cases hj; exact h
  · exact hl j w hj

theorem WP.less {c : ACode} {env env2 : Env} {σ : AW} {Q : AExit → Env → AW → Prop} (hl : eLe env2 env) (h : WP F m c env2 σ Q) : WP F m c env σ Q := fun r τ tm hr =>
  h r τ tm { hr with tmp := fun k v hk => hr.tmp k v (hl k v hk), wfe := fun k v hk => hr.wfe k v (hl k v hk) }

theorem WP.mono {c : ACode} {env : Env} {σ : AW} {Q Q' : AExit → Env → AW → Prop} (h : WP F m c env σ Q) (hq : ∀ e env σ, Q e env σ → Q' e env σ) : WP F m c env σ Q' := fun r τ tm hr => by
  obtain ⟨n, e, tm1, τ1, r1, env1, σ1, hx, h1, rest⟩ := h r τ tm hr
  exact ⟨n, e, tm1, τ1, r1, env1, σ1, hx, hq _ _ _ h1, rest⟩

/-- What is known may be known only if there is reason to. -/
theorem WP.assume {c : ACode} {env : Env} {σ : AW} {Q : AExit → Env → AW → Prop} (h : WfH σ → m ≤ σ.next → 0 < m → (∀ k v, eGet env k = some v → WfV σ.next v) → WP F m c env σ Q) : WP F m c env σ Q :=
  fun r τ tm hr => h hr.wf hr.le hr.pos hr.wfe r τ tm hr

theorem Tr.comp {r s r' : Nat → Nat} {σ2 σ τ σ' τ' : AW} (hs : Emb s σ2 σ) (hm : ∀ b, b < m → s b = b) (h : Tr m (fun b => r (s b)) σ2 τ r' σ' τ') : Tr m r σ τ r' σ' τ' where
  ag := fun b hb => by rw [h.ag b hb]; show r (s b) = _; rw [hm b hb]
  le := h.le
  img := fun b o hb hlt => by
    obtain ⟨b0, o0, h0, e⟩ := h.img b o hb hlt
    exact ⟨s b0, _, hs.get b0 o0 h0, e⟩
  same := fun c hc hn => h.same c hc fun b o hb => hn _ _ (hs.get b o hb)

/-- The memory may be named anew, and less of it. -/
theorem WP.sub {c : ACode} {env env2 : Env} {σ σ2 : AW} {Q : AExit → Env → AW → Prop} (s : Nat → Nat) (hs : Emb s σ2 σ) (hm : ∀ b, b < m → s b = b) (hle : m ≤ σ2.next) (hw : WfH σ2)
    (he : ∀ k v, eGet env2 k = some v → eGet env k = some (ren s v) ∧ WfV σ2.next v) (h : WP F m c env2 σ2 Q) : WP F m c env σ Q := fun r τ tm hr => by
  obtain ⟨n, e, tm1, τ1, r1, env1, σ1, hx, hq, hr1, ht⟩ := h (fun b => r (s b)) τ tm
    { z := by show r (s 0) = 0; rw [hm 0 hr.pos, hr.z], emb := hs.comp hr.emb, tmp := fun k v hk => by rw [ren_comp]; exact hr.tmp k _ (he k v hk).1, wf := hw, wfe := fun k v hk => (he k v hk).2, le := hle, pos := hr.pos }
  exact ⟨n, e, tm1, τ1, r1, env1, σ1, hx, hq, hr1, ht.comp hs hm⟩

/-! ### Loops -/

def loopK (Inv : Nat → Env → AW → Prop) (k : Nat) (Q : AExit → Env → AW → Prop) : AExit → Env → AW → Prop
  | .normal, env, σ => ∃ j env2, j < k ∧ eLe env2 env ∧ Inv j env2 σ
  | .exit id, env, σ => Q (.exit id) env σ
  | .ret, env, σ => Q .ret env σ

theorem WP.loop {b : ACode} (hc : codeC b = true) {Q : AExit → Env → AW → Prop} (Inv : Nat → Env → AW → Prop)
    (step : ∀ k env σ, Inv k env σ → WfH σ → m ≤ σ.next → 0 < m → (∀ j v, eGet env j = some v → WfV σ.next v) → wp F m b env σ (loopK Inv k Q)) :
    ∀ (k : Nat) {env : Env} {σ : AW}, Inv k env σ → WP F m (.loop b) env σ Q := by
  intro k
  induction k using Nat.strongRecOn with
  | _ k ih =>
    intro env σ hi r τ tm hr
    obtain ⟨n, e, tm1, τ1, r1, env1, σ1, hx, hq, hr1, ht⟩ := wp_sound hc (step k env σ hi hr.wf hr.le hr.pos hr.wfe) r τ tm hr
    cases e with
    | normal =>
      obtain ⟨j, env2, hj, hl, hi2⟩ := hq
      obtain ⟨n2, e2, tm2, τ2, r2, env3, σ2, hx2, hq2, hr2, ht2⟩ := (ih j hj hi2).less hl r1 τ1 tm1 hr1
      refine ⟨n + n2 + 1, e2, tm2, τ2, r2, env3, σ2, ?_, hq2, hr2, ht.trans ht2⟩
      simp only [exec, execStep, exec_le' hx (Nat.le_add_right n n2), exec_le' hx2 (Nat.le_add_left n2 n)]
    | exit id => exact ⟨n + 1, .exit id, tm1, τ1, r1, env1, σ1, by simp only [exec, execStep, hx], hq, hr1, ht⟩
    | ret => exact ⟨n + 1, .ret, tm1, τ1, r1, env1, σ1, by simp only [exec, execStep, hx], hq, hr1, ht⟩

/-! ### Calls -/

def eResult (env : Env) (σ : AW) : AResult → Option Value
  | .tmp t => eGet env t
  | .cell1 a => match eGet env a with
    | some (.pointer (some a)) => match σ.loadN a 1 with
      | some [x] => some x
      | _ => none
    | _ => none
  | .cellN a n => match eGet env a with
    | some (.pointer (some a)) => (σ.loadN a n).map fun cs => .agg ⟨cs⟩
    | _ => none

def eResults (env : Env) (σ : AW) : List AResult → Option (List Value)
  | [] => some []
  | r :: rs => match eResult env σ r, eResults env σ rs with
    | some v, some vs => some (v :: vs)
    | _, _ => none

/-- A result, in a memory named anew. -/
inductive Fin (m : Nat) (v : Value) (σ : AW) (Q : Value → AW → Prop) : Prop where
  | here : Q v σ → Fin m v σ Q
  | to (s : Nat → Nat) (v2 : Value) (σ2 : AW) : v = ren s v2 → (∀ b, b < m → s b = b) → Emb s σ2 σ → WfH σ2 → WfV σ2.next v2 → m ≤ σ2.next → Q v2 σ2 → Fin m v σ Q

def retK (m : Nat) (rs : List AResult) (Q : Value → AW → Prop) : AExit → Env → AW → Prop
  | .exit _, _, _ => False
  | .normal, env, σ => ∃ vs, eResults env σ rs = some vs ∧ Fin m (packed vs) σ Q
  | .ret, env, σ => ∃ vs, eResults env σ rs = some vs ∧ Fin m (packed vs) σ Q

theorem eResult_ok {r : Nat → Nat} {env : Env} {σ τ : AW} {tm : T Value} (h : Rel m r env σ τ tm) {a : AResult} {v : Value} (e : eResult env σ a = some v) : aResult tm τ a = some (ren r v) ∧ WfV σ.next v := by
  cases a with
  | tmp t =>
    have := h.tmp t v e
    exact ⟨by simp [aResult, this], h.wfe t v e⟩
  | cell1 t =>
    simp only [eResult] at e
    split at e
    · rename_i a hg
      split at e
      · rename_i x hl
        cases e
        have := h.tmp t _ hg
        refine ⟨?_, (wfL_cons.1 (h.wf.loadN hl)).1⟩
        simp only [aResult, this, Option.getD_some, ren, Option.map_some, h.emb.loadN hl, List.map_cons, List.map_nil]
      · cases e
    · cases e
  | cellN t n =>
    simp only [eResult] at e
    split at e
    · rename_i a hg
      simp only [Option.map_eq_some_iff] at e
      obtain ⟨cs, hl, rfl⟩ := e
      have := h.tmp t _ hg
      refine ⟨?_, wf_agg.2 (h.wf.loadN hl)⟩
      simp only [aResult, this, Option.getD_some, ren, Option.map_some, h.emb.loadN hl, renA_mk]
    · cases e

theorem eResults_ok {r : Nat → Nat} {env : Env} {σ τ : AW} {tm : T Value} (h : Rel m r env σ τ tm) : ∀ {rs : List AResult} {vs : List Value}, eResults env σ rs = some vs → aResults tm τ rs = some (vs.map (ren r)) ∧ WfL σ.next vs
  | [], vs, e => by simp only [eResults, Option.some.injEq] at e; subst e; exact ⟨rfl, wfL_nil⟩
  | a :: rs, vs, e => by
    simp only [eResults] at e
    split at e
    · rename_i v vs' h1 h2
      cases e
      obtain ⟨a1, a2⟩ := eResult_ok h h1
      obtain ⟨b1, b2⟩ := eResults_ok h h2
      exact ⟨by simp [aResults, a1, b1], wfL_cons.2 ⟨a2, b2⟩⟩
    · cases e

theorem wf_packed {n : Nat} {vs : List Value} (h : WfL n vs) : WfV n (packed vs) := by
  match vs with
  | [] => exact wf_tuple.2 wfL_nil
  | [v] => exact (wfL_cons.1 h).1
  | v :: w :: l => exact wf_tuple.2 h

def argsEnv : List Value → Nat → Env
  | [], _ => []
  | v :: vs, i => (i, v) :: argsEnv vs (i + 1)

theorem argsEnv_get : ∀ (vs : List Value) (i k : Nat) (v : Value), eGet (argsEnv vs i) k = some v → v ∈ vs ∧ i ≤ k ∧ vs[k - i]? = some v
  | [], i, k, v, h => by cases h
  | w :: vs, i, k, v, h => by
    simp only [argsEnv, eGet_cons] at h
    split at h
    · rename_i e; cases h; subst e; exact ⟨List.mem_cons_self .., Nat.le_refl _, by simp⟩
    · obtain ⟨h1, h2, h3⟩ := argsEnv_get vs (i + 1) k v h
      refine ⟨List.mem_cons_of_mem _ h1, by omega, ?_⟩
      rw [show k - i = (k - (i + 1)) + 1 by omega]
      simpa using h3

theorem argsOf_get : ∀ (vs : List Value) (i : Nat) (tm : T Value) (k : Nat), (argsOf vs i tm).get k = if i ≤ k ∧ k < i + vs.length then vs[k - i]? else tm.get k
  | [], i, tm, k => by simp only [argsOf, List.length_nil]; rw [if_neg (by omega)]
  | v :: vs, i, tm, k => by
    simp only [argsOf, argsOf_get vs (i + 1) (tm.set i v) k, List.length_cons, T.get_set]
    by_cases e : k = i
    · subst e
      rw [if_neg (by omega), if_pos rfl, if_pos (by omega)]; simp
    · by_cases hk : i + 1 ≤ k ∧ k < i + 1 + vs.length
      · rw [if_pos hk, if_pos (by omega), show k - i = (k - (i + 1)) + 1 by omega]; simp
      · rw [if_neg hk, if_neg e, if_neg (by omega)]

theorem ACall.of_body (hF : Closed F) {f : FuncId} {af : AFunc} (hf : F f = some af) {args : List Value} (hn : args.length ≤ af.ntmps) {σ : AW} {Q : Value → AW → Prop}
    (h : WfH σ → WfL σ.next args → 0 < σ.next → wp F σ.next af.body (argsEnv args 0) σ (retK σ.next af.results Q)) : ACall F f args σ Q := by
  intro r τ hz hp he hw ha
  have hr : Rel σ.next r (argsEnv args 0) σ τ (argsOf (args.map (ren r)) 0 .leaf) := by
    refine ⟨hz, he, fun k v hk => ?_, hw, fun k v hk => ha v (argsEnv_get _ _ _ _ hk).1, Nat.le_refl _, hp⟩
    obtain ⟨_, _, h3⟩ := argsEnv_get _ _ _ _ hk
    have hlt := (List.getElem?_eq_some_iff.1 h3).1
    simp only [Nat.sub_zero] at h3 hlt
    rw [argsOf_get, if_pos ⟨Nat.zero_le _, by simpa using hlt⟩]
    simp [h3]
  obtain ⟨n, e, tm1, τ1, r1, env1, σ1, hx, hq, hr1, ht⟩ := wp_sound (hF f af hf) (h hw ha hp) r τ _ hr
  have fin : (∃ vs, eResults env1 σ1 af.results = some vs ∧ Fin σ.next (packed vs) σ1 Q) → (∃ vs', aResults tm1 τ1 af.results = some vs' ∧ ∃ r' v σ', packed vs' = ren r' v ∧ Q v σ' ∧ r' 0 = 0 ∧ Emb r' σ' τ1 ∧ WfH σ' ∧ WfV σ'.next v ∧ σ.next ≤ σ'.next ∧ Tr σ.next r σ τ r' σ' τ1) := by
    intro ⟨vs, hvs, hfin⟩
    obtain ⟨a1, a2⟩ := eResults_ok hr1 hvs
    refine ⟨_, a1, ?_⟩
    rw [packed_ren]
    cases hfin with
    | here hq => exact ⟨r1, packed vs, σ1, rfl, hq, hr1.z, hr1.emb, hr1.wf, wf_packed a2, hr1.le, ht⟩
    | to s v2 σ2 hv hs hse hw2 hv2 hm2 hq =>
      refine ⟨fun b => r1 (s b), v2, σ2, ?_, hq, ?_, hse.comp hr1.emb, hw2, hv2, hm2, ⟨fun b hb => ?_, ht.le, fun b o hb hlt => ?_, ht.same⟩⟩
      · exact (congrArg (ren r1) hv).trans (ren_comp r1 s v2).symm
      · show r1 (s 0) = 0; rw [hs 0 hp, hr1.z]
      · show r1 (s b) = r b; rw [hs b hb, ht.ag b hb]
      · exact ht.img _ _ (hse.get b o hb) hlt
  have hlen : Nat.ble (args.map (ren r)).length af.ntmps = true := by simpa using hn
  cases e with
  | exit id => exact hq.elim
  | normal =>
    obtain ⟨vs', e1, r', v, σ', e2, rest⟩ := fin hq
    refine ⟨n, τ1, r', v, σ', ?_, rest⟩
    simp only [call, callF, hf, hlen, cond_true, hx, e1, Option.map_some, e2]
  | ret =>
    obtain ⟨vs', e1, r', v, σ', e2, rest⟩ := fin hq
    refine ⟨n, τ1, r', v, σ', ?_, rest⟩
    simp only [call, callF, hf, hlen, cond_true, hx, e1, Option.map_some, e2]

theorem WfO.agree {n : Nat} {o : AObj} (h : WfO n o) {r r' : Nat → Nat} (e : ∀ b, b < n → r b = r' b) : renO r o = renO r' o := by
  cases o with
  | cells c t z ro =>
    have : c.map (ren r) = c.map (ren r') := map_ren_inj.2 fun v hv => h v hv r r' e
    simp only [renO, this]
  | map es k =>
    have : es.map (renE r) = es.map (renE r') := List.map_congr_left fun x hx => by
      have := h x hx
      simp only [renE, this.1 r r' e, this.2 r r' e]
    simp only [renO, this]
  | loop L =>
    have : ∀ t : T Value, (∀ k v, t.get k = some v → WfV n v) → renT r t = renT r' t := by
      intro t
      induction t with
      | leaf => intro _; rfl
      | node v a b iha ihb =>
        intro ht
        have h0 : v.map (ren r) = v.map (ren r') := by
          cases v with
          | none => rfl
          | some w => simp [ht 0 w rfl r r' e]
        have ha := iha fun k w hk => ht (2 * k + 1) w (by
          have : (2 * k) % 2 = 0 := by omega
          have h2 : (2 * k) / 2 = k := by omega
          simp only [T.get, this, h2]; exact hk)
        have hb := ihb fun k w hk => ht (2 * k + 2) w (by
          have : (2 * k + 1) % 2 = 1 := by omega
          have h2 : (2 * k + 1) / 2 = k := by omega
          simp only [T.get, this, h2]; exact hk)
        simp only [renT, h0, ha, hb]
    simp only [renO, this L.tmps h]
  | dead => rfl

/-- **A run of a memory that stands in this one**, and stays: nothing of this one is touched. -/
theorem ACall.of_run (hF : Closed F) {f : FuncId} {n : Nat} {args args0 : List Value} {σ σ0 σ0' : AW} {v : Value} (hr : call F n f args0 σ0 = some (v, σ0')) (hk : ∀ b o, σ0.heap.get b = some o → σ0'.heap.get b = some o) (s : Nat → Nat) (hs : Emb s σ0 σ) (hz : s 0 = 0)
    (ha : args = args0.map (ren s)) {v' : Value} (hv : ren s v = v') (hw : WfV σ.next v') : ACall F f args σ (fun w σ' => w = v' ∧ σ' = σ) := by
  intro r τ h0 hp he hwf _
  obtain ⟨τ', e, hf⟩ := call_ren (r := fun b => r (s b)) hF (by show r (s 0) = 0; rw [hz, h0]) (hs.comp he) hr
  have e' : args.map (ren r) = args0.map (ren fun b => r (s b)) := by
    rw [ha, List.map_map]; exact List.map_congr_left fun x _ => (ren_comp r s x).symm
  obtain ⟨g, ag, gn⟩ : ∃ g : Nat → Nat, (∀ b, b < σ.next → g b = r b) ∧ ∀ k, g (σ.next + k) = τ'.next + k :=
    ⟨fun b => if b < σ.next then r b else b - σ.next + τ'.next, fun b hb => by simp [hb], fun k => by
      show (if σ.next + k < σ.next then _ else σ.next + k - σ.next + τ'.next) = _
      rw [if_neg (by omega)]; omega⟩
  have ag' : ∀ b, b < σ.next → r b = g b := fun b hb => (ag b hb).symm
  have hget : ∀ b o, σ.heap.get b = some o → τ'.heap.get (r b) = some (renO r o) := by
    intro b o hb
    by_cases hin : ∃ b0 o0, σ0.heap.get b0 = some o0 ∧ s b0 = b
    · obtain ⟨b0, o0, hb0, rfl⟩ := hin
      have h1 := hf.emb.get b0 o0 (hk b0 o0 hb0)
      have h2 := hs.get b0 o0 hb0
      rw [hb] at h2; cases h2
      rw [← renO_comp]; exact h1
    · rw [hf.same (r b) (he.lt b o hb) ?_, he.get b o hb]
      intro b0 o0 hb0 e0
      exact hin ⟨b0, o0, hb0, he.inj _ _ _ _ (hs.get b0 o0 hb0) hb e0⟩
  refine ⟨n, τ', g, v', σ, ?_, ⟨rfl, rfl⟩, ?_, ⟨he.fresh, gn, ?_, ?_, ?_⟩, hwf, hw, Nat.le_refl _, ⟨ag, hf.le', ?_, ?_⟩⟩
  · rw [e', e, ren_comp, hv, ren_agree hw ag]
  · rw [ag 0 hp, h0]
  · intro b o hb
    have hlt := hwf.lt b o hb
    rw [ag b hlt, hget b o hb, (hwf.obj b o hb).agree ag']
  · intro b b' o o' hb hb' e1
    rw [ag b (hwf.lt b o hb), ag b' (hwf.lt b' o' hb')] at e1
    exact he.inj b b' o o' hb hb' e1
  · intro b o hb
    rw [ag b (hwf.lt b o hb)]
    exact Nat.lt_of_lt_of_le (he.lt b o hb) hf.le'
  · intro b o hb _
    exact ⟨b, o, hb, (ag b (hwf.lt b o hb)).symm⟩
  · intro c hc hn
    exact hf.same c hc fun b o hb => hn _ _ (hs.get b o hb)

/-- What a call comes to here, the machine does from here. -/
theorem ACall.run {f : FuncId} {args : List Value} {σ : AW} {Q : Value → AW → Prop} (h : ACall F f args σ Q) (hp : 0 < σ.next) (hw : WfH σ) (ha : WfL σ.next args) :
    ∃ n v σ' r v0 σ0, call F n f args σ = some (v, σ') ∧ v = ren r v0 ∧ Q v0 σ0 := by
  have hid : ∀ v : Value, ren (fun b => b) v = v := by
    intro v
    have : ∀ w : Value, ren (fun b => b) w = w := ren_id
    exact this v
  obtain ⟨n, τ', r', v, σ', e, hq, -⟩ := h (fun b => b) σ rfl hp ⟨fun b hb => by
      cases hg : σ.heap.get b with
      | none => rfl
      | some o => exact absurd (hw.lt b o hg) (by omega), fun k => rfl, fun b o hb => by rw [renO_id]; exact hb, fun _ _ _ _ _ _ e => e, fun b o hb => hw.lt b o hb⟩ hw ha
  rw [List.map_congr_left (fun x _ => hid x), List.map_id'] at e
  exact ⟨n, _, _, r', v, σ', e, rfl, hq⟩

end
end Go.AM
