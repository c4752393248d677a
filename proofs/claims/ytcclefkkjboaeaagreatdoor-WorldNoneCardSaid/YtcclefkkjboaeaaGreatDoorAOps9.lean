/- copy, clear; and all operations but calls. -/
import Derived.Test.YtcclefkkjboaeaaGreatDoorAOps8

namespace Go.AM
open Go

section
variable {P : Program} {mts : List TypeId} {ρ : Rho} {σ : AW} {w : World}

theorem loadCells_nil (a : Addr) (w : World) : (loadCells a 0).run P w = .ok #[] w := by simp [loadCells, loadCellsFrom]

theorem copies (h : WRel P mts ρ σ w) {ev ev' : Operand → Value} {tys : Array TypeId} {t0 : TypeId} {d s : Operand} {ao : AOp}
    (hc : compBuiltin P .copy tys [d, s] = some ao) (hd : VRel ρ (ev d) (ev' d)) (hs : VRel ρ (ev s) (ev' s)) {v : Value} {σ' : AW} (hr : aop ev ao σ = some (v, σ')) :
    Sim P mts ρ σ w (valOf (Builtin.copy_ tys t0 #[ev' d, ev' s])) v σ' := by
  unfold compBuiltin at hc
  simp only at hc
  split at hc
  rotate_left
  · cases hc
  rename_i e hu
  simp only [Option.map_eq_some_iff] at hc
  obtain ⟨esz, hsz, rfl⟩ := hc
  simp only [Option.bind_eq_some_iff] at hu
  obtain ⟨t, ht, hu⟩ := hu
  simp only [aop] at hr
  generalize ev d = ud at hd hr
  generalize ev' d = ud' at hd ⊢
  generalize ev s = us at hs hr
  generalize ev' s = us' at hs ⊢
  unfold aCopy at hr
  split at hr
  rotate_left
  · cases hr
  rename_i base dLen dcap sLen hn
  dsimp only at hr
  have hlen := len_run (P := P) hs hn
  -- the model, with what it reads and writes
  have main : ∀ (base' : Option Addr) (c' : Nat) (cs' : Array Value) (w' : World), ud' = .slice base' dLen c' →
      (Builtin.firstCells esz (Nat.min sLen dLen) us').run P w = .ok cs' w →
      (∀ a, base' = some a → (storeCells a cs'.toList).run P w = .ok () w') → (base' = none → w' = w) →
      (Builtin.copy_ tys t0 #[ud', us']).run P w = .ok (goInt (Nat.min sLen dLen)) w' := by
    intro base' c' cs' w' e hf hst hno
    subst e
    unfold Builtin.copy_
    simp only [ht, List.getElem?_toArray, List.getElem?_cons_zero, List.getElem?_cons_succ, Sem.run_bind, run_underlying hu, Result.andThen_ok, run_sizeT hsz, hlen, hf]
    cases base' with
    | none => have := hno rfl; subst this; simp
    | some a => simp [hst a rfl]
  cases h0 : Nat.beq (Nat.min sLen dLen) 0 with
  | true =>
    have hz := Nat.eq_of_beq_eq_true h0
    rw [h0] at hr
    simp only [cond_true, Option.some.injEq, Prod.mk.injEq] at hr
    obtain ⟨rfl, rfl⟩ := hr
    have hf : (Builtin.firstCells esz (Nat.min sLen dLen) us').run P w = .ok #[] w := by
      rw [hz]
      cases hs <;> try (simp [aSrcLen] at hn; done)
      · simp [Builtin.firstCells]
      · simp [Builtin.firstCells]
      · simp [Builtin.firstCells, loadCells_nil]
      · simp [Builtin.firstCells, loadCells_nil]
    have hst : ∀ (b : Option Addr) (a : Addr), b = some a → (storeCells a (#[] : Array Value).toList).run P w = .ok () w := by
      intro b a _; simp [storeCells]
    cases hd with
    | sliceNil =>
      have := main none 0 #[] w rfl hf (hst _) (fun _ => rfl)
      rw [hz] at this
      exact Sim.value this (.int _ _) (.refl h)
    | slice a a' _ _ c' had hnc hcr =>
      have := main (some a') c' #[] w rfl hf (hst _) (fun _ => rfl)
      rw [hz] at this
      exact Sim.value this (.int _ _) (.refl h)
    | slice0 a a' m hm =>
      have := main (some a') 0 #[] w rfl hf (hst _) (fun _ => rfl)
      rw [hz] at this
      exact Sim.value this (.int _ _) (.refl h)
  | false =>
    rw [h0] at hr
    simp only [cond_false] at hr
    have hnz : Nat.min sLen dLen ≠ 0 := by intro e0; rw [e0] at h0; simp at h0
    split at hr
    · rename_i a b n c
      split at hr
      · rename_i cs hl
        simp only [Option.map_eq_some_iff] at hr
        obtain ⟨σ1, hst, he⟩ := hr
        cases he
        simp [aSrcLen] at hn
        subst hn
        cases hd with
        | slice a a' _ _ c' had hnc hcr =>
          have hsrc : ∃ cs' : Array Value, (Builtin.firstCells esz (Nat.min n dLen) us').run P w = .ok cs' w ∧ LRel ρ cs cs'.toList := by
            cases hs with
            | slice b b' _ _ c2 hbd hnc2 hcr2 =>
              obtain ⟨cs', hrun, hlr⟩ := run_loadCells h hbd hl
              exact ⟨cs', by simp only [Builtin.firstCells]; exact hrun, hlr⟩
            | slice0 => exact absurd (by simp) hnz
          obtain ⟨cs', hf, hlr⟩ := hsrc
          obtain ⟨w', hrun, st⟩ := run_storeN h had hlr hst
          exact Sim.value (main (some a') c' cs' w' rfl hf (fun a e => by cases e; exact hrun) (fun e => by cases e)) (.int _ _) st
        | slice0 a a' m hm => exact absurd (by simp) hnz
      · cases hr
    · rename_i a str
      cases h1 : Nat.beq esz 1 with
      | false => rw [h1] at hr; simp at hr
      | true =>
        rw [h1] at hr
        simp only [cond_true, Option.map_eq_some_iff] at hr
        obtain ⟨σ1, hst, he⟩ := hr
        cases he
        simp [aSrcLen] at hn
        subst hn
        cases hs
        cases hd with
        | slice a a' _ _ c' had hnc hcr =>
          have hlr : LRel ρ ((str.extract 0 (Nat.min str.size dLen)).data.toList.map fun b => Value.int .u8 b.toNat) ((str.extract 0 (Nat.min str.size dLen)).data.map fun b => Value.int .u8 b.toNat).toList := by
            refine ⟨by simp, fun i x y hx hy => ?_⟩
            rw [Array.toList_map] at hy
            rw [hx] at hy; cases hy
            rw [List.getElem?_map, Option.map_eq_some_iff] at hx
            obtain ⟨b, _, rfl⟩ := hx
            exact .int _ _
          obtain ⟨w', hrun, st⟩ := run_storeN h had hlr hst
          exact Sim.value (main (some a') c' _ w' rfl (by simp only [Builtin.firstCells]; rfl) (fun a e => by cases e; exact hrun) (fun e => by cases e)) (.int _ _) st
        | slice0 a a' m hm => exact absurd (by simp) hnz
    · cases hr

theorem clears (h : WRel P mts ρ σ w) {ev ev' : Operand → Value} {tys : Array TypeId} {t0 : TypeId} {s : Operand} {ao : AOp}
    (hc : compBuiltin P .clear tys [s] = some ao) (hs : VRel ρ (ev s) (ev' s)) {v : Value} {σ' : AW} (hr : aop ev ao σ = some (v, σ')) :
    Sim P mts ρ σ w (valOf (Builtin.clear_ tys t0 #[ev' s])) v σ' := by
  unfold compBuiltin at hc
  simp only at hc
  split at hc
  rotate_left
  · cases hc
  rename_i e hu
  simp only [Option.map_eq_some_iff] at hc
  obtain ⟨z, hz, rfl⟩ := hc
  simp only [Option.bind_eq_some_iff] at hu
  obtain ⟨t, ht, hu⟩ := hu
  simp only [aop] at hr
  generalize ev s = us at hs hr
  generalize ev' s = us' at hs ⊢
  split at hr
  · cases hr
    cases hs
    refine Sim.value (v' := .tuple #[]) ?_ (undef_rel _) (.refl h)
    simp [Builtin.clear_, ht, run_underlying hu]
  · rename_i a n c
    cases h0 : Nat.beq n 0 with
    | true =>
      have hn := Nat.eq_of_beq_eq_true h0
      subst hn
      rw [h0] at hr
      simp only [cond_true, Option.some.injEq, Prod.mk.injEq] at hr
      obtain ⟨rfl, rfl⟩ := hr
      cases hs <;> exact Sim.value (v' := .tuple #[]) (by simp [Builtin.clear_, ht, run_underlying hu]) (undef_rel _) (.refl h)
    | false =>
      rw [h0] at hr
      simp only [cond_false, Option.map_eq_some_iff] at hr
      obtain ⟨σ1, hst, he⟩ := hr
      cases he
      have hn0 : n ≠ 0 := by intro e0; subst e0; simp at h0
      cases hs with
      | slice a a' _ _ c' had hnc hcr =>
        have hzl : LRel ρ (vcells z) z.cells.toList := (const_rel ρ (zeroT_ok hz)).cells
        have hlr : LRel ρ ((List.replicate n (vcells z)).flatten) (Builtin.zeroCells z.cells n).toList := by
          unfold Builtin.zeroCells
          rw [repl_cells]
          exact repl_rel hzl n
        obtain ⟨w', hrun, st⟩ := run_storeN h had hlr hst
        refine Sim.value (v' := .tuple #[]) ?_ (undef_rel _) st
        obtain ⟨n', rfl⟩ : ∃ n', n = n' + 1 := ⟨n - 1, by omega⟩
        simp [Builtin.clear_, ht, run_underlying hu, run_zeroT hz, hrun]
      | slice0 => exact absurd rfl hn0
  · cases hr

/-- Every operation but calls of functions: what the abstract machine does, the model does. -/
theorem op_sim (h : WRel P mts ρ σ w) {ev ev' : Operand → Value} (o : Oper) {ao : AOp} (hc : compOp0 P mts o.op = some ao)
    (hev : ∀ x ∈ o.op.operands.toList, VRel ρ (ev x) (ev' x)) {v : Value} {σ' : AW} (hr : aop ev ao σ = some (v, σ')) :
    Sim P mts ρ σ w (execOp ev' o) v σ' := by
  obtain ⟨dst, op, type, pos, after, guard⟩ := o
  simp only at hc hev ⊢
  cases op with
  | move x =>
    simp only [compOp0, Option.some.injEq] at hc; subst hc
    simp only [aop, Option.some.injEq, Prod.mk.injEq] at hr
    obtain ⟨rfl, rfl⟩ := hr
    exact Sim.pure h (hev x (by simp [Op.operands]))
  | assign x =>
    simp only [compOp0, Option.some.injEq] at hc; subst hc
    simp only [aop, Option.some.injEq, Prod.mk.injEq] at hr
    obtain ⟨rfl, rfl⟩ := hr
    exact Sim.pure h (hev x (by simp [Op.operands]))
  | pick c a b =>
    simp only [compOp0, Option.some.injEq] at hc; subst hc
    simp only [aop] at hr
    split at hr
    · rename_i t et
      cases hr
      have hcr := hev c (by simp [Op.operands])
      have har := hev a (by simp [Op.operands])
      have hbr := hev b (by simp [Op.operands])
      rw [et] at hcr
      simp only [execOp]
      generalize ev' c = u at hcr ⊢
      cases hcr
      cases t
      · exact ⟨.value (ev' b), ev' b, w, ρ, by simp [asBool], .inl rfl, hbr, .refl h⟩
      · exact ⟨.value (ev' a), ev' a, w, ρ, by simp [asBool], .inl rfl, har, .refl h⟩
    · cases hr
  | alloc e =>
    simp only [compOp0, Option.map_eq_some_iff] at hc
    obtain ⟨z, hz, rfl⟩ := hc
    simp only [aop, Option.some.injEq, Prod.mk.injEq] at hr
    obtain ⟨rfl, rfl⟩ := hr
    exact sim_alloc h hz
  | box e x =>
    simp only [compOp0, Option.some.injEq] at hc; subst hc
    simp only [aop, Option.some.injEq, Prod.mk.injEq] at hr
    obtain ⟨rfl, rfl⟩ := hr
    exact sim_box h e (hev x (by simp [Op.operands]))
  | build t parts => exact sim_build h hc (fun p hp => hev p.2 (by simp only [Op.operands, List.mem_map]; exact ⟨p, hp, rfl⟩)) hr
  | buildSlice t len parts => exact sim_buildSlice h hc (fun p hp => hev p.2 (by simp only [Op.operands, List.mem_map]; exact ⟨p, hp, rfl⟩)) hr
  | load t a => exact sim_load h hc (hev a (by simp [Op.operands])) hr
  | store t a x => exact sim_store h hc (hev a (by simp [Op.operands])) (hev x (by simp [Op.operands])) hr
  | nilCheck x =>
    simp only [compOp0, Option.some.injEq] at hc; subst hc
    exact sim_nilCheck h (hev x (by simp [Op.operands])) hr _ rfl
  | binOp op t x y yt => exact sim_bin h hc (hev x (by simp [Op.operands])) (hev y (by simp [Op.operands])) hr
  | unOp op t x =>
    simp only [compOp0, Option.some.injEq] at hc; subst hc
    exact sim_un h (hev x (by simp [Op.operands])) hr
  | convert src dst x => exact sim_conv h hc (hev x (by simp [Op.operands])) hr
  | makeInterface t x => exact sim_makeIface h hc (hev x (by simp [Op.operands])) hr
  | makeFunc fn a b =>
    exact sim_makeFunc h hc (fun x hx => hev x (by simp only [Op.operands, Array.toList_append, List.mem_append]; exact .inl hx))
      (fun x hx => hev x (by simp only [Op.operands, Array.toList_append, List.mem_append]; exact .inr hx)) hr
  | makeMap t r => exact sim_makeMap h hc hr
  | makeSlice t l c => exact sim_makeSlice h hc (hev l (by simp [Op.operands])) (hev c (by simp [Op.operands])) hr
  | slice t x lo hi mx =>
    refine sim_slice h hc (hev x (by simp [Op.operands])) (fun y hy => hev y ?_) (fun y hy => hev y ?_) (fun y hy => hev y ?_) hr
    · cases hy; simp [Op.operands]
    · cases hy; simp [Op.operands]
    · cases hy; simp [Op.operands]
  | fieldAddr t x i => exact sim_fieldAddr h hc (hev x (by simp [Op.operands])) hr
  | field t x i => exact sim_field h hc (hev x (by simp [Op.operands])) hr
  | indexAddr t x i => exact sim_indexAddr h hc (hev x (by simp [Op.operands])) (hev i (by simp [Op.operands])) hr
  | index t x i => exact sim_index h hc (hev x (by simp [Op.operands])) (hev i (by simp [Op.operands])) hr
  | lookup t m k ok => exact sim_lookup h hc (hev m (by simp [Op.operands])) (hev k (by simp [Op.operands])) hr
  | mapUpdate t m k x => exact sim_mapUpdate h hc (hev m (by simp [Op.operands])) (hev k (by simp [Op.operands])) (hev x (by simp [Op.operands])) hr
  | extract x i =>
    simp only [compOp0, Option.some.injEq] at hc; subst hc
    exact sim_extract h (hev x (by simp [Op.operands])) hr
  | call c =>
    obtain ⟨callee, args, tys⟩ := c
    cases callee with
    | value f => simp only [compOp0, Option.some.injEq] at hc; subst hc; cases hr
    | invoke r name => simp only [compOp0, Option.some.injEq] at hc; subst hc; cases hr
    | builtin b =>
      simp only [compOp0] at hc
      simp only [Op.operands, Call.operands] at hev
      obtain ⟨cst, hex⟩ : ∃ cst, execOp ev' { dst, op := .call { callee := .builtin b, args, argTypes := tys }, type, pos, after, guard } = builtin b tys type cst (args.map ev') :=
        ⟨_, by simp only [execOp, resolve, pure_bind, invoke]; rfl⟩
      rw [hex]
      have e1 : ∀ x : Operand, Array.map ev' [x].toArray = #[ev' x] := fun x => by simp
      have e2 : ∀ x y : Operand, Array.map ev' [x, y].toArray = #[ev' x, ev' y] := fun x y => by simp
      have hargs : ∀ l, args.toList = l → args = l.toArray := fun l e => by rw [← e]
      cases b with
      | len =>
        cases ha : args.toList with
        | nil => rw [ha] at hc; simp [compBuiltin] at hc
        | cons x l =>
          cases l with
          | nil =>
            rw [ha] at hc
            have := hargs _ ha
            subst this
            rw [e1]
            exact lens h hc (hev x (by simp)) hr
          | cons y l => rw [ha] at hc; simp [compBuiltin] at hc
      | append =>
        cases ha : args.toList with
        | nil => rw [ha] at hc; simp [compBuiltin] at hc
        | cons x l =>
          cases l with
          | nil => rw [ha] at hc; simp [compBuiltin] at hc
          | cons y l =>
            cases l with
            | nil =>
              rw [ha] at hc
              have := hargs _ ha
              subst this
              rw [e2]
              exact appends h hc (hev x (by simp)) (hev y (by simp)) hr
            | cons z l => rw [ha] at hc; simp [compBuiltin] at hc
      | copy =>
        cases ha : args.toList with
        | nil => rw [ha] at hc; simp [compBuiltin] at hc
        | cons x l =>
          cases l with
          | nil => rw [ha] at hc; simp [compBuiltin] at hc
          | cons y l =>
            cases l with
            | nil =>
              rw [ha] at hc
              have := hargs _ ha
              subst this
              rw [e2]
              exact copies h hc (hev x (by simp)) (hev y (by simp)) hr
            | cons z l => rw [ha] at hc; simp [compBuiltin] at hc
      | delete =>
        cases ha : args.toList with
        | nil => rw [ha] at hc; simp [compBuiltin] at hc
        | cons x l =>
          cases l with
          | nil => rw [ha] at hc; simp [compBuiltin] at hc
          | cons y l =>
            cases l with
            | nil =>
              rw [ha] at hc
              have := hargs _ ha
              subst this
              rw [e2]
              exact deletes h hc (hev x (by simp)) (hev y (by simp)) hr
            | cons z l => rw [ha] at hc; simp [compBuiltin] at hc
      | clear =>
        cases ha : args.toList with
        | nil => rw [ha] at hc; simp [compBuiltin] at hc
        | cons x l =>
          cases l with
          | nil =>
            rw [ha] at hc
            have := hargs _ ha
            subst this
            rw [e1]
            exact clears h hc (hev x (by simp)) hr
          | cons y l => rw [ha] at hc; simp [compBuiltin] at hc
      | min =>
        cases ha : args.toList with
        | nil => rw [ha] at hc; simp [compBuiltin] at hc
        | cons x l =>
          rw [ha] at hc
          simp only [compBuiltin, Option.some.injEq] at hc; subst hc
          exact minmaxs (isMax := false) (tys := tys) (t0 := type) h (hev x (by simp [ha])) (fun y hy => hev y (by simp [ha, hy])) (by simp [ha]) hr
      | max =>
        cases ha : args.toList with
        | nil => rw [ha] at hc; simp [compBuiltin] at hc
        | cons x l =>
          rw [ha] at hc
          simp only [compBuiltin, Option.some.injEq] at hc; subst hc
          exact minmaxs (isMax := true) (tys := tys) (t0 := type) h (hev x (by simp [ha])) (fun y hy => hev y (by simp [ha, hy])) (by simp [ha]) hr
      | _ => simp [compBuiltin] at hc
  | _ => simp [compOp0] at hc

end
end Go.AM
