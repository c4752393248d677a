/- Operations of a region whose order is drawn: what needs no memory, what only reads, what makes. -/
import Derived.Test.YtcclefkkjboaeaaGreatDoorAOps9

namespace Go.AM
open Go

section
variable {P : Program} {mts : List TypeId}

theorem ret_some {x v : Value} {σ σ' : AW} (h : some (x, σ) = some (v, σ')) : σ' = σ ∧ ∀ σ₂ : AW, some (x, σ₂) = some (v, σ₂) := by
  cases h; exact ⟨rfl, fun _ => rfl⟩

theorem ret_map {α : Type} {o : Option α} {g : α → Value} {v : Value} {σ σ' : AW} (h : o.map (fun x => (g x, σ)) = some (v, σ')) : σ' = σ ∧ ∀ σ₂ : AW, o.map (fun x => (g x, σ₂)) = some (v, σ₂) := by
  cases o with
  | none => cases h
  | some a => cases h; exact ⟨rfl, fun _ => rfl⟩

theorem ret_if {c : Prop} [Decidable c] {f : AW → Option (Value × AW)} {v : Value} {σ σ' : AW} (hf : f σ = some (v, σ') → σ' = σ ∧ ∀ σ₂ : AW, f σ₂ = some (v, σ₂))
    (h : (if c then f σ else none) = some (v, σ')) : σ' = σ ∧ ∀ σ₂ : AW, (if c then f σ₂ else none) = some (v, σ₂) := by
  by_cases hc : c
  · simp only [hc, if_true] at h ⊢; exact hf h
  · simp only [hc, if_false] at h; cases h

theorem pure_same {ev : Operand → Value} {op : AOp} {σ σ' : AW} {v : Value} (hc : clsOf op = .pure) (hr : aop ev op σ = some (v, σ')) : σ' = σ ∧ ∀ σ₂, aop ev op σ₂ = some (v, σ₂) := by
  cases op with
  | mov x => exact ret_some hr
  | makeIface t x => exact ret_some hr
  | makeFunc f a b => exact ret_some hr
  | build z ps => exact ret_map hr
  | bin op e x y => exact ret_map hr
  | un op x => exact ret_map hr
  | minmax m x l => exact ret_map hr
  | pick c a b => simp only [aop] at hr ⊢; generalize ev c = x at hr ⊢; cases x <;> first | (cases hr; done) | exact ret_some hr
  | nilCheck c =>
    simp only [aop] at hr ⊢; generalize ev c = x at hr ⊢
    cases x <;> first
      | (cases hr; done)
      | exact ret_some hr
      | (rename_i p; cases p <;> first | (cases hr; done) | exact ret_some hr)
      | (rename_i f a b; cases f <;> first | (cases hr; done) | exact ret_some hr)
  | convInt k c => simp only [aop] at hr ⊢; generalize ev c = x at hr ⊢; cases x <;> first | (cases hr; done) | exact ret_some hr
  | convStr c => simp only [aop] at hr ⊢; generalize ev c = x at hr ⊢; cases x <;> first | (cases hr; done) | exact ret_some hr
  | lenStr c => simp only [aop] at hr ⊢; generalize ev c = x at hr ⊢; cases x <;> first | (cases hr; done) | exact ret_some hr
  | lenSl c => simp only [aop] at hr ⊢; generalize ev c = x at hr ⊢; cases x <;> first | (cases hr; done) | exact ret_some hr
  | extract c i => simp only [aop] at hr ⊢; generalize ev c = x at hr ⊢; cases x <;> first | (cases hr; done) | exact ret_map hr
  | field g o n c => simp only [aop] at hr ⊢; generalize ev c = x at hr ⊢; cases x <;> first | (cases hr; done) | exact ret_map hr
  | fieldAddr o c =>
    simp only [aop] at hr ⊢; generalize ev c = x at hr ⊢
    cases x <;> first | (cases hr; done) | (rename_i p; cases p <;> first | (cases hr; done) | exact ret_some hr)
  | indexAddrArr len esz c i =>
    simp only [aop] at hr ⊢; generalize ev c = x at hr ⊢; generalize aIdx (ev i) = j at hr ⊢
    cases x <;> first | (cases hr; done) | (rename_i p; cases p <;> first | (cases hr; done) | (cases j <;> first | (cases hr; done) | exact ret_if (f := fun σ => some (_, σ)) ret_some hr))
  | indexAddrSl esz c i =>
    simp only [aop] at hr ⊢; generalize ev c = x at hr ⊢; generalize aIdx (ev i) = j at hr ⊢
    cases x <;> first | (cases hr; done) | (rename_i p _ _; cases p <;> first | (cases hr; done) | (cases j <;> first | (cases hr; done) | exact ret_if (f := fun σ => some (_, σ)) ret_some hr))
  | indexStr c i =>
    simp only [aop] at hr ⊢; generalize ev c = x at hr ⊢; generalize aIdx (ev i) = j at hr ⊢
    cases x <;> first | (cases hr; done) | (cases j <;> first | (cases hr; done) | exact ret_if (f := fun σ => Option.map (fun b => (_, σ)) _) ret_map hr)
  | indexArr g len esz c i =>
    simp only [aop] at hr ⊢; generalize ev c = x at hr ⊢; generalize aIdx (ev i) = j at hr ⊢
    cases x <;> first | (cases hr; done) | (cases j <;> first | (cases hr; done) | exact ret_if (f := fun σ => Option.map (fun b => (b, σ)) _) ret_map hr)
  | slice k x lo hi mx =>
    cases k with
    | sl e => cases hc
    | _ => exact ret_map hr
  | _ => cases hc

theorem loadN_push {σ : AW} (hf : σ.heap.get σ.next = none) (o : AObj) {a : Addr} {n : Nat} {cs : List Value} (h : σ.loadN a n = some cs) : (σ.push o).loadN a n = some cs := by
  unfold AW.loadN at *
  have hne : a.block ≠ σ.next := by
    intro e; rw [e, hf] at h; cases a.spot <;> simp at h
  have : (σ.push o).heap.get a.block = σ.heap.get a.block := by
    simp [AW.push, T.get_set, hne]
  rw [this]; exact h

theorem get_push {σ : AW} (hf : σ.heap.get σ.next = none) (o : AObj) {b : Nat} {x : AObj} (h : σ.heap.get b = some x) : (σ.push o).heap.get b = some x := by
  have hne : b ≠ σ.next := by intro e; rw [e, hf] at h; cases h
  simp [AW.push, T.get_set, hne, h]

theorem read_same {ev : Operand → Value} {op : AOp} {σ σ' : AW} {v : Value} (hc : clsOf op = .read) (hr : aop ev op σ = some (v, σ')) :
    σ' = σ ∧ (σ.heap.get σ.next = none → ∀ o, aop ev op (σ.push o) = some (v, σ.push o)) := by
  cases op with
  | load1 a =>
    simp only [aop] at hr ⊢
    split at hr
    · rename_i p hp
      split at hr
      · rename_i x hl
        cases hr
        exact ⟨rfl, fun hf o => by rw [loadN_push hf o hl]⟩
      · cases hr
    · cases hr
  | loadN n a =>
    simp only [aop] at hr ⊢
    split at hr
    · rename_i p hp
      simp only [Option.map_eq_some_iff, Prod.mk.injEq] at hr
      obtain ⟨cs, hl, rfl, rfl⟩ := hr
      exact ⟨rfl, fun hf o => by rw [loadN_push hf o hl]; rfl⟩
    · cases hr
  | convBytesStr x =>
    simp only [aop] at hr ⊢
    split at hr
    · cases hr; exact ⟨rfl, fun _ _ => rfl⟩
    · split at hr
      · rename_i cs hl
        simp only [Option.map_eq_some_iff, Prod.mk.injEq] at hr
        obtain ⟨l, hb, rfl, rfl⟩ := hr
        exact ⟨rfl, fun hf o => by rw [loadN_push hf o hl]; simp only [hb]; rfl⟩
      · cases hr
    · cases hr
  | lookup pk z ok m k =>
    simp only [aop] at hr ⊢
    split at hr
    · cases hr; exact ⟨rfl, fun _ _ => rfl⟩
    · split at hr
      · rename_i es c hg
        split at hr
        · rename_i j x hf
          cases hr
          exact ⟨rfl, fun hfr o => by rw [get_push hfr o hg]; simp only [hf]⟩
        · rename_i hf
          cases hr
          exact ⟨rfl, fun hfr o => by rw [get_push hfr o hg]; simp only [hf]⟩
        · cases hr
      · cases hr
    · cases hr
  | lenMap x =>
    simp only [aop] at hr ⊢
    split at hr
    · cases hr; exact ⟨rfl, fun _ _ => rfl⟩
    · split at hr
      · rename_i es c hg
        cases hr
        exact ⟨rfl, fun hfr o => by rw [get_push hfr o hg]⟩
      · cases hr
    · cases hr
  | slice k x lo hi mx =>
    cases k with
    | sl e =>
      simp only [aop, Option.map_eq_some_iff, Prod.mk.injEq] at hr ⊢
      obtain ⟨y, hy, rfl, rfl⟩ := hr
      refine ⟨rfl, fun hf o => ⟨_, ?_, rfl, trivial⟩⟩
      revert hy
      generalize ev x = u
      cases u <;> try (intro hy; cases hy; done)
      rename_i p len cap
      simp only [aSliceSl]
      generalize aBounds len cap _ _ _ = bb
      cases bb with
      | none => intro hy; cases hy
      | some bb =>
        obtain ⟨l, h, m⟩ := bb
        simp only
        cases Nat.beq cap 0 with
        | true => exact id
        | false =>
          simp only [cond_false]
          cases p with
          | none => exact id
          | some a =>
            simp only
            intro hy
            cases hg : σ.heap.get a.block with
            | none => rw [hg] at hy; cases hy
            | some ob => rw [hg] at hy; rw [get_push hf o hg]; exact hy
    | _ => cases hc
  | _ => cases hc

/-! ### What makes -/

/-- What an operation that makes gives, beside the abstract machine's: whatever memory stands around it. -/
def Make (P : Program) (mts : List TypeId) (ρ : Rho) (w : World) (s : Sem Next) (v : Value) (b : Nat) (obj : AObj) : Prop :=
  ∃ v' m oc, s.run P w = .ok (.value v') { w with heap := w.heap.push oc } ∧ m.c = w.heap.size ∧ ObjRel P mts ρ m (some oc) obj ∧ ∀ ρ' : Rho, ρ' b = some m → VRel ρ' v v'

variable {ρ : Rho} {σ : AW} {w : World}

theorem obj_new (cs : List Value) (cs' : Array Value) (el el' : TypeId) (z : Nat) (hl : LRel ρ cs cs'.toList) :
    ObjRel P mts ρ ⟨w.heap.size, 0, cs.length, cs'.size, z, false⟩ (some (.cells cs' el')) (.cells cs el z false) := by
  have hlen : cs.length = cs'.size := by simpa using hl.1
  refine ⟨rfl, rfl, cs', el', 0, 0, rfl, by simp, rfl, by simp only; omega, fun j _ _ => by omega, ?_⟩
  intro i x hx
  obtain ⟨y, hy, hr⟩ := hl.get hx
  exact ⟨y, by simpa using hy, hr⟩

theorem ad_of {ρ' : Rho} {b : Nat} {m : BM} (h : ρ' b = some m) (hb : m.base = 0) : AdRel ρ' ⟨b, 0, none⟩ ⟨m.c, 0, none⟩ := ⟨rfl, m, h, by simp [hb]⟩

def isMakeOp : Op → Bool
  | .alloc _ | .box .. | .makeMap .. | .buildSlice .. | .makeSlice .. => true
  | _ => false

def isMake : AOp → Bool
  | .alloc .. | .box .. | .buildSlice .. | .makeMap | .makeSlice .. => true
  | _ => false

theorem isMake_cls {ao : AOp} (h : clsOf ao = .make) : isMake ao = true := by
  cases ao with
  | slice k x lo hi mx => cases k <;> cases h
  | _ => first | rfl | cases h

theorem map_make {α : Type} {x : Option α} {f : α → AOp} {ao : AOp} (h : x.map f = some ao) (hf : ∀ a, isMake (f a) = false) : isMake ao = false := by
  cases x with
  | none => cases h
  | some a => cases h; exact hf a

theorem compBuiltin_make {b : Builtin} {tys : Array TypeId} {args : List Operand} {ao : AOp} (h : compBuiltin P b tys args = some ao) : isMake ao = false := by
  unfold compBuiltin at h
  repeat' split at h
  all_goals first
    | (cases h; done)
    | (cases h; rfl)
    | (exact map_make h fun _ => rfl)
    | (simp only [Bool.cond_eq_ite] at h; split at h <;> first | (cases h; done) | (cases h; rfl))

theorem compOp0_make {op : Op} {ao : AOp} (h : compOp0 P mts op = some ao) (hc : isMake ao = true) : isMakeOp op = true := by
  unfold compOp0 at h
  split at h
  all_goals (try rfl)
  all_goals exfalso
  all_goals (repeat' split at h)
  all_goals first
    | (cases h; done)
    | (cases h; cases hc; done)
    | (rw [map_make h fun _ => rfl] at hc; cases hc; done)
    | (rw [compBuiltin_make h] at hc; cases hc; done)
    | (simp only [Bool.cond_eq_ite] at h; split at h <;> first | (cases h; done) | (cases h; cases hc; done) | (rw [map_make h fun _ => rfl] at hc; cases hc; done))

theorem make_sim {ev ev' : Operand → Value} (o : Oper) {ao : AOp} (hc : compOp0 P mts o.op = some ao)
    (hev : ∀ x ∈ o.op.operands.toList, VRel ρ (ev x) (ev' x)) (hcls : clsOf ao = .make) {v : Value} {σ' : AW} (hr : aop ev ao σ = some (v, σ')) (w : World) :
    ∃ obj, σ' = σ.push obj ∧ Make P mts ρ w (execOp ev' o) v σ.next obj := by
  obtain ⟨dst, op, type, pos, after, guard⟩ := o
  simp only at hc hev ⊢
  cases op with
  | alloc e =>
    simp only [compOp0, Option.map_eq_some_iff] at hc
    obtain ⟨z, hz, rfl⟩ := hc
    simp only [aop, Option.some.injEq, Prod.mk.injEq] at hr
    obtain ⟨rfl, rfl⟩ := hr
    have hl : LRel ρ (vcells z) z.cells.toList := (const_rel ρ (zeroT_ok hz)).cells
    refine ⟨_, rfl, .pointer (some ⟨w.heap.size, 0, none⟩), _, _, ?_, ?_, obj_new (w := w) _ z.cells e e 0 hl, fun ρ' h => .ptr _ _ (ad_of h rfl)⟩
    · simp [execOp, Instr.alloc, run_zeroT hz, newVar, newRow]
    · rfl
  | box e x =>
    simp only [compOp0, Option.some.injEq] at hc; subst hc
    simp only [aop, Option.some.injEq, Prod.mk.injEq] at hr
    obtain ⟨rfl, rfl⟩ := hr
    have hx := hev x (by simp [Op.operands])
    refine ⟨_, rfl, .pointer (some ⟨w.heap.size, 0, none⟩), _, _, ?_, ?_, obj_new (w := w) _ (ev' x).cells e e 0 hx.cells, fun ρ' h => .ptr _ _ (ad_of h rfl)⟩
    · simp [execOp, Instr.box, newVar, newRow]
    · rfl
  | makeMap t r =>
    unfold compOp0 at hc
    simp only at hc
    split at hc
    · cases hc
      simp only [aop, Option.some.injEq, Prod.mk.injEq] at hr
      obtain ⟨rfl, rfl⟩ := hr
      refine ⟨_, rfl, .map (some w.heap.size), ⟨w.heap.size, 0, 0, 1, 0, false⟩, .map #[] 0, ?_, rfl, ⟨rfl, rfl, rfl, #[], rfl, rfl, fun i e e' he => by simp at he⟩, fun ρ' h => .map _ _ h⟩
      simp [execOp, Instr.makeMap]
    · cases hc
  | buildSlice t len parts =>
    unfold compOp0 at hc
    simp only at hc
    split at hc
    rotate_left
    · cases hc
    rename_i e hu
    split at hc
    rotate_left
    · cases hc
    rename_i s z hs hz
    cases hb : Nat.ble (len * s) (2 ^ 24) && lenIs (vcells z) s with
    | false => rw [hb] at hc; simp at hc
    | true =>
      rw [hb] at hc
      rw [Bool.and_eq_true] at hb
      have hle := Nat.le_of_ble_eq_true hb.1
      have hlen := lenIs_eq _ _ hb.2
      simp only [cond_true, Option.map_eq_some_iff] at hc
      obtain ⟨ps, hps, rfl⟩ := hc
      simp only [aop, Option.map_eq_some_iff] at hr
      obtain ⟨c', hf, he⟩ := hr
      cases he
      have hev : ∀ p ∈ parts.toList, VRel ρ (ev p.2) (ev' p.2) := fun p hp => hev p.2 (by simp only [Op.operands, List.mem_map]; simpa using ⟨p.1, by simpa using hp⟩)
      have hzl : LRel ρ (vcells z) z.cells.toList := (const_rel ρ (zeroT_ok hz)).cells
      have hzs : z.cells.size = s := by have := hzl.1; simp at this; omega
      by_cases h0 : len * s = 0
      · have hnil : repl len (vcells z) = [] := List.eq_nil_of_length_eq_zero (by simp [repl, hlen, h0])
        have hzr : LRel ρ (repl len (vcells z)) ((Array.range (len * s)).map (fun i => (#[] : Array Value)[i % (#[] : Array Value).size]!)).toList := by
          rw [hnil, h0]; simpa using LRel.nil ρ
        obtain ⟨d', hd', hl⟩ := fill_rel _ parts.toList ps hps hev _ c' _ hzr hf
        refine ⟨_, rfl, .slice (some ⟨w.heap.size, 0, none⟩) len len, _, _, ?_, ?_, obj_new (w := w) c' d' e e 0 hl, fun ρ' h => .slice _ _ _ _ _ (ad_of h rfl) (Nat.le_refl _) (.inl rfl)⟩
        · have hd'' : Instr.fill (fun i => some (i * s, s)) ((Array.range (len * s)).map (fun i => (#[] : Array Value)[i % (#[] : Array Value).size]!)) (parts.map fun x => (x.1, ev' x.2)).toList = some d' := by simpa using hd'
          simp only [execOp, Instr.buildSlice, Sem.run_bind, run_underlying hu, Result.andThen_ok, run_sizeT hs]
          rw [if_neg (by omega), if_pos h0]
          simp only [Sem.run_bind, Sem.run_pure, Result.andThen_ok]
          rw [hd'']
          simp [newRow]
        · rfl
      · have hzr : LRel ρ (repl len (vcells z)) ((Array.range (len * s)).map (fun i => z.cells[i % z.cells.size]!)).toList := by
          rw [← hzs, repl_cells]
          exact repl_rel hzl len
        obtain ⟨d', hd', hl⟩ := fill_rel _ parts.toList ps hps hev _ c' _ hzr hf
        refine ⟨_, rfl, .slice (some ⟨w.heap.size, 0, none⟩) len len, _, _, ?_, ?_, obj_new (w := w) c' d' e e 0 hl, fun ρ' h => .slice _ _ _ _ _ (ad_of h rfl) (Nat.le_refl _) (.inl rfl)⟩
        · have hd'' : Instr.fill (fun i => some (i * s, s)) ((Array.range (len * s)).map (fun i => z.cells[i % z.cells.size]!)) (parts.map fun x => (x.1, ev' x.2)).toList = some d' := by simpa using hd'
          simp only [execOp, Instr.buildSlice, Sem.run_bind, run_underlying hu, Result.andThen_ok, run_sizeT hs]
          rw [if_neg (by omega), if_neg h0]
          simp only [Sem.run_bind, Sem.run_pure, Result.andThen_ok, run_zeroT hz]
          rw [hd'']
          simp [newRow]
        · rfl
  | makeSlice t l c =>
    have hl := hev l (by simp [Op.operands])
    have hcc := hev c (by simp [Op.operands])
    unfold compOp0 at hc
    simp only at hc
    split at hc
    · rename_i e hu
      split at hc
      · rename_i n m z hn hm hz
        cases hlen : lenIs (vcells z) n with
        | false => rw [hlen] at hc; simp at hc
        | true =>
          rw [hlen] at hc
          simp only [cond_true, Option.some.injEq] at hc
          subst hc
          simp only [aop] at hr
          split at hr
          · rename_i kl i kc j el ec
            split at hr
            · rename_i hb
              cases hr
              simp only [execOp]
              rw [el] at hl
              rw [ec] at hcc
              generalize ev' l = u at hl ⊢
              generalize ev' c = u' at hcc ⊢
              cases hl; cases hcc
              obtain ⟨h0, h1, h2⟩ := hb
              have hzs : (vcells z).length = n := lenIs_eq _ _ hlen
              have hzl : LRel ρ (vcells z) z.cells.toList := (const_rel ρ (zeroT_ok hz)).cells
              have hzn : z.cells.size = n := by have := hzl.1; simp at this; omega
              obtain ⟨ie, hie, hbytes⟩ := run_infoT hm w
              have hmax : maxBytes = 1099511627776 := rfl
              rw [hmax] at h2
              have hj0 : 0 ≤ j := by omega
              have hj1 : j ≤ 1099511627776 := by
                have : j * 1 ≤ j * (↑m + 1) := Int.mul_le_mul_of_nonneg_left (by omega) hj0
                omega
              have hjm : (m : Int) * j ≤ 1099511627776 := by
                have : j * (↑m + 1) = ↑m * j + j := by rw [Int.mul_add, Int.mul_comm]; omega
                omega
              have hwi : IntKind.i64.wrap i = i := by
                unfold IntKind.wrap; simp [IntKind.bits, IntKind.signed]; omega
              have hwj : IntKind.i64.wrap j = j := by
                unfold IntKind.wrap; simp [IntKind.bits, IntKind.signed]; omega
              have hcells : LRel ρ ((List.replicate j.toNat (vcells z)).flatten)
                  ((Array.range (j.toNat * n)).map (fun i => (if j.toNat * n = 0 then (#[] : Array Value) else z.cells)[i % (if j.toNat * n = 0 then (#[] : Array Value) else z.cells).size]!)).toList := by
                by_cases h0 : j.toNat * n = 0
                · have : (List.replicate j.toNat (vcells z)).flatten = [] := List.eq_nil_of_length_eq_zero (by simp [hzs, h0])
                  rw [this, h0]; simpa using LRel.nil ρ
                · simp only [h0, if_false]
                  rw [← hzn, repl_cells]
                  exact repl_rel hzl _
              refine ⟨_, rfl, .slice (some ⟨w.heap.size, 0, none⟩) i.toNat j.toNat, _, _, ?_, ?_, obj_new (w := w) _ _ e e 0 hcells, fun ρ' h => .slice _ _ _ _ _ (ad_of h rfl) (by omega) (.inl rfl)⟩
              · simp only [Instr.makeSlice, Sem.run_bind, run_underlying hu, Result.andThen_ok, asInt, asIntOf, Sem.run_pure, hie, hbytes, hwi, hwj]
                rw [if_neg (by simp; omega)]
                simp only [Sem.run_bind, run_askRoom, Result.andThen_ok, run_sizeT hn]
                by_cases h0 : j.toNat * n = 0
                · rw [if_pos h0]
                  simp only [Sem.run_bind, Sem.run_pure, Result.andThen_ok, newRow, run_newObj, h0, if_true]
                · rw [if_neg h0]
                  simp only [Sem.run_bind, Sem.run_pure, Result.andThen_ok, newRow, run_newObj, h0, if_false, run_zeroT hz]
              · rfl
            · cases hr
          · cases hr
      · cases hc
    · cases hc
  | _ => exact absurd (compOp0_make hc (isMake_cls hcls)) (by simp [isMakeOp])

/-- The new block in the midst of the abstract machine's memory: there it stands already. -/
theorem step_mid {ρ₀ : Rho} {σ₀ : AW} {w₀ : World} (h : Step P mts ρ₀ σ₀ w₀ ρ σ w) {b : Nat} {obj : AObj} {m : BM} {oc : Obj} (hb : b < σ.next) (hn : ρ b = none) (hg : σ.heap.get b = some obj) (hb0 : σ₀.next ≤ b)
    (hc : m.c = w.heap.size) (hrel : ObjRel P mts ρ m (some oc) obj) : Step P mts ρ₀ σ₀ w₀ (ρ.with b m) σ { w with heap := w.heap.push oc } := by
  have hle := Rho.with_le (m := m) hn
  have hw := h.rel
  refine { rel := ?_, le := h.le.trans hle, new := ?_, own := ?_, next := h.next, aframe := h.aframe, size := by have := h.size; simp; omega, cframe := ?_, tape := h.tape, os := h.os, out := h.out }
  · refine { dom := ?_, obj := ?_, disj := ?_, fresh := hw.fresh }
    · intro b' n e
      by_cases hbb : b' = b
      · subst hbb; simp [Rho.with] at e; subst e; exact ⟨hb, by simp [hc]⟩
      · simp [Rho.with, hbb] at e
        have := hw.dom b' n e
        simp; omega
    · intro b' n ao' e e'
      by_cases hbb : b' = b
      · subst hbb; simp [Rho.with] at e; subst e
        rw [hg] at e'; cases e'
        have := hrel.mono hle
        simpa [hc] using this
      · simp [Rho.with, hbb] at e
        have hd := hw.dom b' n e
        have := (hw.obj b' n ao' e e').mono hle
        rwa [Array.getElem?_push_lt hd.2, ← Array.getElem?_eq_getElem hd.2]
    · intro b1 b2 n n' e e' hbb hcc
      by_cases hb1 : b1 = b
      · subst hb1; simp [Rho.with] at e; subst e
        have hb2 : b2 ≠ b1 := fun e => hbb e.symm
        simp [Rho.with, hb2] at e'
        have := hw.dom b2 n' e'
        omega
      · simp [Rho.with, hb1] at e
        by_cases hb2 : b2 = b
        · subst hb2; simp [Rho.with] at e'; subst e'
          have := hw.dom b1 n e
          omega
        · simp [Rho.with, hb2] at e'
          exact hw.disj b1 b2 n n' e e' hbb hcc
  · intro b' n e e'
    by_cases hbb : b' = b
    · subst hbb; exact hb0
    · simp [Rho.with, hbb] at e'; exact h.new b' n e e'
  · intro b' n e e'
    by_cases hbb : b' = b
    · subst hbb; simp [Rho.with] at e'; subst e'
      left; rw [hc]; exact h.size
    · simp [Rho.with, hbb] at e'; exact h.own b' n e e'
  · intro c hc' ho
    have := h.size
    simp only
    rw [Array.getElem?_push_lt (by omega), ← Array.getElem?_eq_getElem (by omega)]
    exact h.cframe c hc' ho

/-- The abstract machine's memory grown by what the model has not made yet. -/
theorem Step.grow {ρ₀ : Rho} {σ₀ : AW} {w₀ : World} (h : Step P mts ρ₀ σ₀ w₀ ρ σ w) (o : AObj) : Step P mts ρ₀ σ₀ w₀ ρ (σ.push o) w := by
  have hget : ∀ b, b < σ.next → (σ.push o).heap.get b = σ.heap.get b := fun b hb => by rw [push_get, if_neg (by omega)]
  have hw := h.rel
  refine { h with rel := ?_, next := by have := h.next; simp [AW.push]; omega, aframe := fun b hb hn => ?_ }
  · refine { dom := fun b m e => ?_, obj := fun b m ao e e' => ?_, disj := fun b b' m m' e e' hbb hcc => ?_, fresh := fun b hb => ?_ }
    · have := hw.dom b m e; simp [AW.push]; omega
    · rw [hget b (hw.dom b m e).1] at e'; exact hw.obj b m ao e e'
    · rcases hw.disj b b' m m' e e' hbb hcc with x | x | x | x
      · exact .inl x
      · refine .inr (.inl ?_); unfold Dead at *; rw [hget b (hw.dom b m e).1]; exact x
      · refine .inr (.inr (.inl ?_)); unfold Dead at *; rw [hget b' (hw.dom b' m' e').1]; exact x
      · exact .inr (.inr (.inr x))
    · simp [AW.push] at hb
      rw [push_get, if_neg (by omega)]
      exact hw.fresh b (by omega)
  · have := h.next
    rw [hget b (by omega)]
    exact h.aframe b hb hn

end
end Go.AM
