/- What a run of the abstract machine comes to, in whatever memory its own stands: rules. -/
import Derived.Test.YtcclefkkjboaeaaGreatDoorAWf

namespace Go.AM
open Go

/-! ## More fuel -/

def ExLe (ex ex' : Exec) : Prop := ∀ c tm σ x, ex c tm σ = some x → ex' c tm σ = some x

section
variable {F : FuncId → Option AFunc} {ex ex' : Exec} (hE : ExLe ex ex')
include hE

theorem callF_le {f : FuncId} {args : List Value} {σ : AW} {x : Value × AW} (h : callF F ex f args σ = some x) : callF F ex' f args σ = some x := by
  unfold callF at h ⊢
  split at h
  · cases h
  · rename_i af hf
    cases hl : Nat.ble args.length af.ntmps
    · rw [hl] at h; cases h
    · rw [hl] at h
      simp only [cond_true] at h ⊢
      split at h
      · rename_i tm σ' hx; rw [hE _ _ _ _ hx]; exact h
      · rename_i tm σ' hx; rw [hE _ _ _ _ hx]; exact h
      · cases h

theorem callV_le {f : Value} {args : List Value} {σ : AW} {x : Value × AW} (h : callV F ex f args σ = some x) : callV F ex' f args σ = some x := by
  unfold callV at h ⊢
  split at h
  · exact callF_le hE h
  · cases h

theorem aoper_le {ev : Operand → Value} {op : AOp} {σ : AW} {x : Value × AW} (h : aoper F ex ev op σ = some x) : aoper F ex' ev op σ = some x := by
  cases op with
  | call f l => simp only [aoper] at h ⊢; exact callV_le hE h
  | invoke r cs l =>
    simp only [aoper] at h ⊢
    split at h
    · split at h
      · exact callF_le hE h
      · cases h
    · cases h
  | _ => exact h

theorem runOper_le {o : AOper} {tm : T Value} {σ : AW} {x : T Value × AW} (h : runOper F ex o tm σ = some x) : runOper F ex' o tm σ = some x := by
  unfold runOper at h ⊢
  cases hw : wanted tm o.guard
  · rw [hw] at h; exact h
  · rw [hw] at h
    simp only [cond_true] at h ⊢
    split at h
    · rename_i v σ' hx; rw [aoper_le hE hx]; exact h
    · cases h

theorem runOps_le : ∀ {l : List AOper} {tm : T Value} {σ : AW} {x : T Value × AW}, runOps F ex l tm σ = some x → runOps F ex' l tm σ = some x
  | [], _, _, _, h => h
  | o :: l, tm, σ, x, h => by
    simp only [runOps] at h ⊢
    split at h
    · rename_i tm1 σ1 hx; rw [runOper_le hE hx]; exact runOps_le h
    · cases h

theorem runDraw_le : ∀ {l : List DOper} {tm : T Value} {σ : AW} {x : T Value × AW}, runDraw F ex l tm σ = some x → runDraw F ex' l tm σ = some x
  | [], _, _, _, h => h
  | o :: l, tm, σ, x, h => by
    simp only [runDraw] at h ⊢
    split at h
    · rename_i tm1 σ1 hx
      rw [runOper_le hE hx]
      cases ha : runAgain o.again tm1 σ1
      · rw [ha] at h; cases h
      · rw [ha] at h; simp only [ha, cond_true] at h ⊢; exact runDraw_le h
    · cases h

theorem execStep_le : ExLe (execStep F ex) (execStep F ex') := by
  intro c tm σ x h
  cases c with
  | skip => exact h
  | label l => exact h
  | exit id => exact h
  | ret => exact h
  | bad => simp [execStep] at h
  | ops l =>
    simp only [execStep, Option.map_eq_some_iff] at h ⊢
    obtain ⟨y, hy, rfl⟩ := h
    exact ⟨y, runOps_le hE hy, rfl⟩
  | draw l =>
    simp only [execStep, Option.map_eq_some_iff] at h ⊢
    obtain ⟨y, hy, rfl⟩ := h
    exact ⟨y, runDraw_le hE hy, rfl⟩
  | seq a b =>
    simp only [execStep] at h ⊢
    cases hx : ex a tm σ with
    | none => rw [hx] at h; cases h
    | some p =>
      obtain ⟨e1, tm1, σ1⟩ := p
      rw [hx] at h; rw [hE _ _ _ _ hx]
      cases e1 with
      | normal => exact hE _ _ _ _ h
      | _ => exact h
  | cond c a b =>
    simp only [execStep] at h ⊢
    split at h
    · rename_i t e; cases t <;> exact hE _ _ _ _ h
    · cases h
  | block id b =>
    simp only [execStep] at h ⊢
    cases hx : ex b tm σ with
    | none => rw [hx] at h; cases h
    | some p => rw [hx] at h; rw [hE _ _ _ _ hx]; exact h
  | loop b =>
    simp only [execStep] at h ⊢
    cases hx : ex b tm σ with
    | none => rw [hx] at h; cases h
    | some p =>
      obtain ⟨e1, tm1, σ1⟩ := p
      rw [hx] at h; rw [hE _ _ _ _ hx]
      cases e1 with
      | normal => exact hE _ _ _ _ h
      | _ => exact h
  | scope b => exact hE _ _ _ _ h
  | rangeFunc f ps a b =>
    simp only [execStep] at h ⊢
    split at h
    · rename_i v σ2 hx; rw [callV_le hE hx]; exact h
    · cases h

end

theorem exec_succ (F : FuncId → Option AFunc) : ∀ n, ExLe (exec F n) (exec F (n + 1))
  | 0 => by intro c tm σ x h; cases h
  | n + 1 => execStep_le (exec_succ F n)

theorem exec_le (F : FuncId → Option AFunc) {n n' : Nat} (h : n ≤ n') : ExLe (exec F n) (exec F n') := by
  induction h with
  | refl => exact fun _ _ _ _ h => h
  | step _ ih => exact fun c tm σ x hx => exec_succ F _ _ _ _ _ (ih c tm σ x hx)

theorem call_le {F : FuncId → Option AFunc} {n n' : Nat} (h : n ≤ n') {f : FuncId} {args : List Value} {σ : AW} {x : Value × AW} (hc : call F n f args σ = some x) : call F n' f args σ = some x :=
  callF_le (exec_le F h) hc

/-! ## What is known of the temporaries -/

abbrev Env := List (Nat × Value)

def eGet : Env → Nat → Option Value
  | [], _ => none
  | (k, v) :: l, j => bif Nat.beq k j then some v else eGet l j

def eVal (env : Env) : Operand → Option Value
  | .tmp t => eGet env t
  | .const v => some v
  | .global g => some (.pointer (some ⟨g, 0, none⟩))
  | .func f => some (.func (.func f) #[] #[])

def eVals (env : Env) : List Operand → Option (List Value)
  | [] => some []
  | x :: l => match eVal env x, eVals env l with
    | some v, some vs => some (v :: vs)
    | _, _ => none

def eEv (env : Env) (x : Operand) : Value := (eVal env x).getD undef

def ePut (env : Env) (d : Option Nat) (v : Value) : Env :=
  match d with
  | some d => (d, v) :: env
  | none => env

theorem eGet_cons (k : Nat) (v : Value) (l : Env) (j : Nat) : eGet ((k, v) :: l) j = if k = j then some v else eGet l j := by
  simp only [eGet]
  by_cases h : k = j
  · subst h; simp
  · have : Nat.beq k j = false := Bool.eq_false_iff.2 fun e => h (Nat.eq_of_beq_eq_true e)
    simp [this, h]

/-! ## States and steps -/

structure Rel (m : Nat) (r : Nat → Nat) (env : Env) (σ τ : AW) (tm : T Value) : Prop where
  z : r 0 = 0
  emb : Emb r σ τ
  tmp : ∀ k v, eGet env k = some v → tm.get k = some (ren r v)
  wf : WfH σ
  wfe : ∀ k v, eGet env k = some v → WfV σ.next v
  le : m ≤ σ.next
  pos : 0 < m

structure Tr (m : Nat) (r : Nat → Nat) (σ τ : AW) (r' : Nat → Nat) (σ' τ' : AW) : Prop where
  ag : ∀ b, b < m → r' b = r b
  le : τ.next ≤ τ'.next
  img : ∀ b o, σ'.heap.get b = some o → r' b < τ.next → ∃ b0 o0, σ.heap.get b0 = some o0 ∧ r b0 = r' b
  same : ∀ c, c < τ.next → (∀ b o, σ.heap.get b = some o → r b ≠ c) → τ'.heap.get c = τ.heap.get c

theorem Tr.refl (m : Nat) (r : Nat → Nat) (σ τ : AW) : Tr m r σ τ r σ τ := ⟨fun _ _ => rfl, Nat.le_refl _, fun b o h _ => ⟨b, o, h, rfl⟩, fun _ _ _ => rfl⟩

theorem Tr.trans {m : Nat} {r r1 r2 : Nat → Nat} {σ τ σ1 τ1 σ2 τ2 : AW} (h : Tr m r σ τ r1 σ1 τ1) (h' : Tr m r1 σ1 τ1 r2 σ2 τ2) : Tr m r σ τ r2 σ2 τ2 where
  ag := fun b hb => (h'.ag b hb).trans (h.ag b hb)
  le := Nat.le_trans h.le h'.le
  img := fun b o hb hlt => by
    obtain ⟨b1, o1, hb1, e1⟩ := h'.img b o hb (Nat.lt_of_lt_of_le hlt h.le)
    obtain ⟨b0, o0, hb0, e0⟩ := h.img b1 o1 hb1 (by rw [e1]; exact hlt)
    exact ⟨b0, o0, hb0, e0.trans e1⟩
  same := fun c hc hn => by
    rw [h'.same c (Nat.lt_of_lt_of_le hc h.le) ?_, h.same c hc hn]
    intro b o hb e
    obtain ⟨b0, o0, hb0, e0⟩ := h.img b o hb (by rw [e]; exact hc)
    exact hn b0 o0 hb0 (e0.trans e)

theorem Tr.mono {m m' : Nat} {r r' : Nat → Nat} {σ τ σ' τ' : AW} (h : Tr m r σ τ r' σ' τ') (hm : m' ≤ m) : Tr m' r σ τ r' σ' τ' :=
  ⟨fun b hb => h.ag b (Nat.lt_of_lt_of_le hb hm), h.le, h.img, h.same⟩

theorem Tr.of_fr {m : Nat} {r : Nat → Nat} {σ τ σ' τ' : AW} (h0 : Emb r σ τ) (h : Fr r σ τ σ' τ') : Tr m r σ τ r σ' τ' where
  ag := fun _ _ => rfl
  le := h.le'
  img := fun b o hb hlt => by
    by_cases hb' : b < σ.next
    · cases ho : σ.heap.get b with
      | none => rw [h.dom b hb' ho] at hb; cases hb
      | some o' => exact ⟨b, o', ho, rfl⟩
    · have := h0.next (b - σ.next)
      rw [show σ.next + (b - σ.next) = b by omega] at this
      omega
  same := h.same

theorem ren_agree {n : Nat} {v : Value} (h : WfV n v) {r r' : Nat → Nat} (e : ∀ b, b < n → r' b = r b) : ren r' v = ren r v := h r' r e

def WP (F : FuncId → Option AFunc) (m : Nat) (c : ACode) (env : Env) (σ : AW) (Q : AExit → Env → AW → Prop) : Prop :=
  ∀ r τ tm, Rel m r env σ τ tm → ∃ n e tm' τ' r' env' σ', exec F n c tm τ = some (e, tm', τ') ∧ Q e env' σ' ∧ Rel m r' env' σ' τ' tm' ∧ Tr m r σ τ r' σ' τ'

/-- **A call comes to Q**, in whatever memory the one named stands. -/
def ACall (F : FuncId → Option AFunc) (f : FuncId) (args : List Value) (σ : AW) (Q : Value → AW → Prop) : Prop :=
  ∀ r τ, r 0 = 0 → 0 < σ.next → Emb r σ τ → WfH σ → WfL σ.next args → ∃ n τ' r' v σ', call F n f (args.map (ren r)) τ = some (ren r' v, τ') ∧ Q v σ' ∧ r' 0 = 0 ∧ Emb r' σ' τ' ∧ WfH σ' ∧ WfV σ'.next v ∧ σ.next ≤ σ'.next ∧ Tr σ.next r σ τ r' σ' τ'

theorem ACall.mono {F : FuncId → Option AFunc} {f : FuncId} {args : List Value} {σ : AW} {Q Q' : Value → AW → Prop} (h : ACall F f args σ Q) (hq : ∀ v σ', Q v σ' → Q' v σ') : ACall F f args σ Q' := by
  intro r τ h0 hp h1 h2 h3
  obtain ⟨n, τ', r', v, σ', a, b, c⟩ := h r τ h0 hp h1 h2 h3
  exact ⟨n, τ', r', v, σ', a, hq _ _ b, c⟩

/-! ## The rules, as a function of the code -/

section
variable (F : FuncId → Option AFunc) (m : Nat)

def callVA (f : Value) (args : List Value) (σ : AW) (Q : Value → AW → Prop) : Prop :=
  match f with
  | .func (.func f) first captured => ACall F f (first.toList ++ args ++ captured.toList) σ Q
  | _ => False

def okOpds (env : Env) (op : AOp) : Prop := ∀ x ∈ opdsOf op, ∃ v, eVal env x = some v

def eOpt (env : Env) : Option Operand → Option (Option Value)
  | none => some none
  | some x => (eVal env x).map some

def eFill (env : Env) : List Value → List (Nat × Nat × Operand) → Option (List Value)
  | cs, [] => some cs
  | cs, (off, size, x) :: rest => match eVal env x with
    | some v => bif lenIs (vcells v) size then
        match splice cs off (vcells v) with
        | some cs' => eFill env cs' rest
        | none => none
      else none
    | none => none

def nonNil : Value → Bool
  | .pointer (some _) => true
  | .iface _ _ => true
  | .func (.func _) _ _ => true
  | _ => false

def aBytesStr (σ : AW) : Value → Option ByteArray
  | .slice none _ _ => some .empty
  | .slice (some a) n _ => match σ.loadN a n with
    | some cs => (aBytes cs).map fun l => ⟨⟨l⟩⟩
    | none => none
  | _ => none

/-- An operation, where what it looks at is known. -/
def aopE (env : Env) (op : AOp) (σ : AW) : Option (Value × AW) :=
  match op with
  | .mov x => (eVal env x).map fun v => (v, σ)
  | .pick c a b => match eVal env c, eVal env a, eVal env b with
    | some (.bool t), some v, some w => some (bif t then v else w, σ)
    | _, _, _ => none
  | .alloc e z => some (.pointer (some ⟨σ.next, 0, none⟩), σ.push (.cells z e 0 false))
  | .box e x => (eVal env x).map fun v => (.pointer (some ⟨σ.next, 0, none⟩), σ.push (.cells (vcells v) e 0 false))
  | .build z ps => (eFill env z ps).map fun cs => (.agg ⟨cs⟩, σ)
  | .buildSlice e len z ps => (eFill env z ps).map fun cs => (.slice (some ⟨σ.next, 0, none⟩) len len, σ.push (.cells cs e 0 false))
  | .load1 a => match eVal env a with
    | some (.pointer (some p)) => match σ.loadN p 1 with
      | some [x] => some (x, σ)
      | _ => none
    | _ => none
  | .loadN n a => match eVal env a with
    | some (.pointer (some p)) => (σ.loadN p n).map fun cs => (.agg ⟨cs⟩, σ)
    | _ => none
  | .store n a x => match eVal env a, eVal env x with
    | some (.pointer (some p)), some v => if lenIs (vcells v) n = true then (σ.storeN p (vcells v)).map fun σ' => (undef, σ') else none
    | _, _ => none
  | .nilCheck x => match eVal env x with
    | some v => if nonNil v = true then some (v, σ) else none
    | none => none
  | .bin op eq x y => match eVal env x, eVal env y with
    | some a, some b => (aBin op eq (isConst x || isConst y) a b).map fun v => (v, σ)
    | _, _ => none
  | .un op x => match eVal env x with
    | some a => (pureOf (Op.unary op a)).map fun v => (v, σ)
    | none => none
  | .convInt k x => match eVal env x with
    | some (.int _ n) => some (.int k (k.wrap n), σ)
    | _ => none
  | .convStr x => match eVal env x with
    | some (.string s) => some (.string s, σ)
    | _ => none
  | .convBytesStr x => match eVal env x with
    | some v => (aBytesStr σ v).map fun s => (.string s, σ)
    | none => none
  | .convStrBytes e x => match eVal env x with
    | some (.string s) => some (.slice (some ⟨σ.next, 0, none⟩) s.size s.size, σ.push (.cells (s.data.toList.map fun b => .int .u8 b.toNat) e 1 false))
    | _ => none
  | .makeIface t x => (eVal env x).map fun v => (.iface t v, σ)
  | .makeFunc f a b => match eVals env a, eVals env b with
    | some va, some vb => some (.func (.func f) ⟨va⟩ ⟨vb⟩, σ)
    | _, _ => none
  | .makeMap => some (.map (some σ.next), σ.push (.map [] 0))
  | .makeSlice e _ bytes z l c => match eVal env l, eVal env c with
    | some (.int _ n), some (.int _ n') => if 0 ≤ n ∧ n ≤ n' ∧ n' * (bytes + 1) ≤ maxBytes then
        some (.slice (some ⟨σ.next, 0, none⟩) n.toNat n'.toNat, σ.push (.cells (List.replicate n'.toNat z).flatten e 0 false)) else none
    | _, _ => none
  | .slice k x lo hi mx => match eVal env x, eOpt env lo, eOpt env hi, eOpt env mx with
    | some a, some l, some h, some m => (match k with
      | .str => aSliceStr a l h m
      | .sl esz => aSliceSl σ esz a l h m
      | .arr n esz => aSliceArr n esz a l h m).map fun v => (v, σ)
    | _, _, _, _ => none
  | .fieldAddr off x => match eVal env x with
    | some (.pointer (some a)) => some (.pointer (some (a.add off)), σ)
    | _ => none
  | .field agg off n x => match eVal env x with
    | some (.agg cs) => (aPart agg cs.toList off n).map fun v => (v, σ)
    | _ => none
  | .indexAddrArr len esz x i => match eVal env x, eVal env i with
    | some (.pointer (some a)), some (.int _ n) => if 0 ≤ n ∧ n < len then some (.pointer (some (a.add (n.toNat * esz))), σ) else none
    | _, _ => none
  | .indexAddrSl esz x i => match eVal env x, eVal env i with
    | some (.slice (some a) len _), some (.int _ n) => if 0 ≤ n ∧ n < len then some (.pointer (some (a.add (n.toNat * esz))), σ) else none
    | _, _ => none
  | .indexStr x i => match eVal env x, eVal env i with
    | some (.string s), some (.int _ n) => if 0 ≤ n then (s[n.toNat]?).map fun b => (.int .u8 b.toNat, σ) else none
    | _, _ => none
  | .indexArr agg len esz x i => match eVal env x, eVal env i with
    | some (.agg cs), some (.int _ n) => if 0 ≤ n ∧ n < len then (aPart agg cs.toList (n.toNat * esz) esz).map fun v => (v, σ) else none
    | _, _ => none
  | .extract x i => match eVal env x with
    | some (.tuple vs) => (vs.toList[i]?).map fun v => (v, σ)
    | _ => none
  | .lenStr x => match eVal env x with
    | some (.string s) => some (goInt s.size, σ)
    | _ => none
  | .lenSl x => match eVal env x with
    | some (.slice _ n _) => some (goInt n, σ)
    | _ => none
  | .append e esz bytes s x => match eVal env s, eVal env x with
    | some a, some b => aAppend e esz bytes a b σ
    | _, _ => none
  | .copy esz d s => match eVal env d, eVal env s with
    | some a, some b => aCopy esz a b σ
    | _, _ => none
  | .minmax b x l => match eVal env x, eVals env l with
    | some a, some vs => (aMinMax b a vs).map fun v => (v, σ)
    | _, _ => none
  | .lookup pk z ok m k => match eVal env m, eVal env k with
    | some _, some _ => aop (eEv env) (.lookup pk z ok m k) σ
    | _, _ => none
  | .mapUpdate pk m k x => match eVal env m, eVal env k, eVal env x with
    | some _, some _, some _ => aop (eEv env) (.mapUpdate pk m k x) σ
    | _, _, _ => none
  | .lenMap x => match eVal env x with
    | some _ => aop (eEv env) (.lenMap x) σ
    | none => none
  | .clear z s => match eVal env s with
    | some _ => aop (eEv env) (.clear z s) σ
    | none => none
  | .delete pk m k => match eVal env m, eVal env k with
    | some _, some _ => aop (eEv env) (.delete pk m k) σ
    | _, _ => none
  | .call .. | .invoke .. => none

/-- What the semantics says of an operation. -/
def wpRun0 (op : AOp) (env : Env) (σ : AW) (Q : Value → AW → Prop) : Prop :=
  okOpds env op ∧ ∃ v σ', aop (eEv env) op σ = some (v, σ') ∧ Q v σ'

def wpOpt (o : Option (Value × AW)) (Q : Value → AW → Prop) : Prop :=
  match o with
  | some (v, σ) => Q v σ
  | none => False

def callK (fv : Option Value) (vs : Option (List Value)) (σ : AW) (Q : Value → AW → Prop) : Prop :=
  match fv, vs with
  | some fv, some vs => callVA F fv vs σ Q
  | _, _ => False

def invokeK (x : Option Value) (cs : List (TypeId × FuncId)) (vs : Option (List Value)) (σ : AW) (Q : Value → AW → Prop) : Prop :=
  match x, vs with
  | some (.iface t v), some vs => match findCase t cs with
    | some f => ACall F f (v :: vs) σ Q
    | none => False
  | _, _ => False

def wpRun (op : AOp) (env : Env) (σ : AW) (Q : Value → AW → Prop) : Prop :=
  match op with
  | .call f args => callK F (eVal env f) (eVals env args) σ Q
  | .invoke x cs args => invokeK F (eVal env x) cs (eVals env args) σ Q
  | op => wpOpt (aopE env op σ) Q

def guardB (o : Option Value) (K : Bool → Prop) : Prop :=
  match o with
  | some (.bool b) => K b
  | _ => False

def wpOper (o : AOper) (env : Env) (σ : AW) (Q : Env → AW → Prop) : Prop :=
  match o.guard with
  | none => wpRun F o.op env σ (fun v σ' => Q (ePut env o.dst v) σ')
  | some (t, w) => guardB (eGet env t) fun b => (b = w → wpRun F o.op ((t, .bool w) :: env) σ (fun v σ' => Q (ePut ((t, .bool w) :: env) o.dst v) σ')) ∧ (b = !w → Q (ePut ((t, .bool !w) :: env) o.dst undef) σ)

def wpOps : List AOper → Env → AW → (Env → AW → Prop) → Prop
  | [], env, σ, Q => Q env σ
  | o :: l, env, σ, Q => wpOper F o env σ (fun env σ => wpOps l env σ Q)

def againK (o : Option (Value × AW)) (w : Option Value) : Prop :=
  match o, w with
  | some (v, _), some w => v = w ∧ veq v v = true
  | _, _ => False

def wpAgain (env : Env) (σ : AW) : List AOper → Prop
  | [] => True
  | o :: l => (match o.guard with
    | none => againK (aopE env o.op σ) (o.dst.bind (eGet env))
    | some (t, w) => guardB (eGet env t) fun b => (b = w → againK (aopE env o.op σ) (o.dst.bind (eGet env)))) ∧ wpAgain env σ l

def wpDraw : List DOper → Env → AW → (Env → AW → Prop) → Prop
  | [], env, σ, Q => Q env σ
  | o :: l, env, σ, Q => wpOper F o.op env σ (fun env σ => wpAgain env σ o.again ∧ wpDraw l env σ Q)

def opsK (d : Option Nat) (env : Env) (l : List AOper) (Q : Env → AW → Prop) : Value → AW → Prop := fun v σ => wpOps F l (ePut env d v) σ Q

def drawK (ag : List AOper) (l : List DOper) (Q : Env → AW → Prop) : Env → AW → Prop := fun env σ => wpAgain env σ ag ∧ wpDraw F l env σ Q

def seqK (K : Env → AW → Prop) (Q : AExit → Env → AW → Prop) : AExit → Env → AW → Prop
  | .normal, env, σ => K env σ
  | .exit id, env, σ => Q (.exit id) env σ
  | .ret, env, σ => Q .ret env σ

def blockK (id : Nat) (Q : AExit → Env → AW → Prop) : AExit → Env → AW → Prop
  | .normal, env, σ => Q .normal env σ
  | .exit id', env, σ => if id' = id then Q .normal env σ else Q (.exit id') env σ
  | .ret, env, σ => Q .ret env σ

def wp : ACode → Env → AW → (AExit → Env → AW → Prop) → Prop
  | .skip, env, σ, Q => Q .normal env σ
  | .label _, env, σ, Q => Q .normal env σ
  | .ops l, env, σ, Q => wpOps F l env σ (Q .normal)
  | .draw l, env, σ, Q => wpDraw F l env σ (Q .normal)
  | .seq a b, env, σ, Q => wp a env σ (seqK (fun env σ => wp b env σ Q) Q)
  | .cond c a b, env, σ, Q => guardB (eVal env c) fun t => (t = true → wp a env σ Q) ∧ (t = false → wp b env σ Q)
  | .block id b, env, σ, Q => wp b env σ (blockK id Q)
  | .scope b, env, σ, Q => wp b env σ Q
  | .exit id, env, σ, Q => Q (.exit id) env σ
  | .ret, env, σ, Q => Q .ret env σ
  | .bad, _, _, _ => False
  | .loop b, env, σ, Q => WP F m (.loop b) env σ Q
  | .rangeFunc f ps a b, env, σ, Q => WP F m (.rangeFunc f ps a b) env σ Q

end
end Go.AM
