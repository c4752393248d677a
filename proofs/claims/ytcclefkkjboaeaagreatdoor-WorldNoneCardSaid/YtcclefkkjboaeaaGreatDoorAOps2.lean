/- Each operation but calls, one by one. -/
import Derived.Test.YtcclefkkjboaeaaGreatDoorAOps
import Derived.Laws.StructEq

namespace Go.AM
open Go

section
variable {P : Program} {mts : List TypeId} {ρ : Rho} {σ : AW} {w : World}

theorem sim_build (h : WRel P mts ρ σ w) {ev ev' : Operand → Value} {t : TypeId} {parts : Array (Nat × Operand)} {ao : AOp}
    (hc : compOp0 P mts (.build t parts) = some ao) (hev : ∀ p ∈ parts.toList, VRel ρ (ev p.2) (ev' p.2)) {v : Value} {σ' : AW} (hr : aop ev ao σ = some (v, σ')) :
    Sim P mts ρ σ w (do pure (.value (← Instr.build t (parts.map fun (i, x) => (i, ev' x))))) v σ' := by
  unfold compOp0 at hc
  simp only at hc
  split at hc
  · rename_i fs z hu hz
    split at hc
    · rename_i places hpl
      simp only [Option.map_eq_some_iff] at hc
      obtain ⟨ps, hps, rfl⟩ := hc
      simp only [aop, Option.map_eq_some_iff] at hr
      obtain ⟨c', hf, he⟩ := hr
      cases he
      obtain ⟨d', hd', hl⟩ := fill_rel _ parts.toList ps hps hev _ c' z.cells (const_rel ρ (zeroT_ok hz)).cells hf
      refine Sim.value (v' := .agg d') (run_build w t _ d' ?_) hl.agg (.refl h)
      simp only [zeroT, Option.bind_eq_some_iff] at hz
      obtain ⟨i, hi, z', hz', hcz⟩ := hz
      cases hb : constOk z' with
      | false => simp [hb] at hcz
      | true =>
        simp [hb] at hcz; subst hcz
        simp only [Program.built, hi, hu, hz', hpl]
        simpa using hd'
    · cases hc
  · rename_i n e z hu hz
    split at hc
    · rename_i s hs
      simp only [Option.map_eq_some_iff] at hc
      obtain ⟨ps, hps, rfl⟩ := hc
      simp only [aop, Option.map_eq_some_iff] at hr
      obtain ⟨c', hf, he⟩ := hr
      cases he
      obtain ⟨d', hd', hl⟩ := fill_rel _ parts.toList ps hps hev _ c' z.cells (const_rel ρ (zeroT_ok hz)).cells hf
      refine Sim.value (v' := .agg d') (run_build w t _ d' ?_) hl.agg (.refl h)
      simp only [zeroT, Option.bind_eq_some_iff] at hz
      obtain ⟨i, hi, z', hz', hcz⟩ := hz
      simp only [sizeT, Option.map_eq_some_iff] at hs
      obtain ⟨ie, hie, rfl⟩ := hs
      cases hb : constOk z' with
      | false => simp [hb] at hcz
      | true =>
        simp [hb] at hcz; subst hcz
        simp only [Program.built, hi, hu, hz', hie]
        simpa using hd'
    · cases hc
  · cases hc

theorem repl_cells (z : Array Value) : ∀ (n : Nat), ((Array.range (n * z.size)).map (fun i => z[i % z.size]!)).toList = repl n z.toList := by
  intro n
  apply List.ext_getElem?
  intro i
  unfold repl
  by_cases hi : i < n * z.size
  · have hz : 0 < z.size := by rcases Nat.eq_zero_or_pos z.size with h | h; · simp [h] at hi
                               · exact h
    have hm : i % z.size < z.size := Nat.mod_lt _ hz
    have h1 : ((Array.range (n * z.size)).map (fun i => z[i % z.size]!)).toList[i]? = some z[i % z.size] := by
      simp [hi, hm]
    rw [h1]
    have key : ∀ (n : Nat) (i : Nat), i < n * z.size → ((List.replicate n z.toList).flatten)[i]? = z.toList[i % z.size]? := by
      intro n
      induction n with
      | zero => intro i hi; simp at hi
      | succ n ih =>
        intro i hi
        rw [List.replicate_succ, List.flatten_cons]
        by_cases hlt : i < z.size
        · rw [List.getElem?_append_left (by simpa using hlt), Nat.mod_eq_of_lt hlt]
        · rw [List.getElem?_append_right (by simp; omega)]
          rw [show z.toList.length = z.size by simp]
          rw [ih (i - z.size) (by rw [Nat.add_mul] at hi; omega)]
          rw [Nat.mod_eq_sub_mod (a := i) (by omega)]
    rw [key n i hi]
    simp [hm]
  · have hl : ((List.replicate n z.toList).flatten).length = n * z.size := by simp
    rw [List.getElem?_eq_none (by simp; omega), List.getElem?_eq_none (by rw [hl]; omega)]

theorem repl_rel {l l' : List Value} (h : LRel ρ l l') : ∀ (n : Nat), LRel ρ (repl n l) (repl n l')
  | 0 => .nil _
  | n + 1 => by
    unfold repl
    rw [List.replicate_succ, List.flatten_cons, List.replicate_succ, List.flatten_cons]
    exact h.append (repl_rel h n)

theorem sim_buildSlice (h : WRel P mts ρ σ w) {ev ev' : Operand → Value} {t : TypeId} {len : Nat} {parts : Array (Nat × Operand)} {ao : AOp}
    (hc : compOp0 P mts (.buildSlice t len parts) = some ao) (hev : ∀ p ∈ parts.toList, VRel ρ (ev p.2) (ev' p.2)) {v : Value} {σ' : AW} (hr : aop ev ao σ = some (v, σ')) :
    Sim P mts ρ σ w (do pure (.value (← Instr.buildSlice t len (parts.map fun (i, x) => (i, ev' x))))) v σ' := by
  unfold compOp0 at hc
  simp only at hc
  split at hc
  rotate_left
  · cases hc
  rename_i e hu
  split at hc
  rotate_left
  · cases hc
  rename_i s z hs hz
  cases hb : Nat.ble (len * s) (2 ^ 24) && lenIs (vcells z) s with
  | false => rw [hb] at hc; simp at hc
  | true =>
    rw [hb] at hc
    rw [Bool.and_eq_true] at hb
    have hle := Nat.le_of_ble_eq_true hb.1
    have hlen := lenIs_eq _ _ hb.2
    simp only [cond_true, Option.map_eq_some_iff] at hc
    obtain ⟨ps, hps, rfl⟩ := hc
    simp only [aop, Option.map_eq_some_iff] at hr
    obtain ⟨c', hf, he⟩ := hr
    cases he
    have hzl : LRel ρ (vcells z) z.cells.toList := (const_rel ρ (zeroT_ok hz)).cells
    have hzs : z.cells.size = s := by have := hzl.1; simp at this; omega
    by_cases h0 : len * s = 0
    · have hnil : repl len (vcells z) = [] := List.eq_nil_of_length_eq_zero (by simp [repl, hlen, h0])
      have hzr : LRel ρ (repl len (vcells z)) ((Array.range (len * s)).map (fun i => (#[] : Array Value)[i % (#[] : Array Value).size]!)).toList := by
        rw [hnil, h0]; simpa using LRel.nil ρ
      obtain ⟨d', hd', hl⟩ := fill_rel _ parts.toList ps hps hev _ c' _ hzr hf
      refine Sim.value (v' := .slice (some ⟨w.heap.size, 0, none⟩) len len) ?_ ?_ (step_new' h c' d' e e 0 hl)
      · have hd'' : Instr.fill (fun i => some (i * s, s)) ((Array.range (len * s)).map (fun i => (#[] : Array Value)[i % (#[] : Array Value).size]!)) (parts.map fun x => (x.1, ev' x.2)).toList = some d' := by simpa using hd'
        simp only [Instr.buildSlice, Sem.run_bind, run_underlying hu, Result.andThen_ok, run_sizeT hs]
        rw [if_neg (by omega), if_pos h0]
        simp only [Sem.run_bind, Sem.run_pure, Result.andThen_ok]
        rw [hd'']
        simp [newRow]
      · exact .slice _ _ _ _ _ (with_ad _ _ _ rfl) (Nat.le_refl _) (.inl rfl)
    · have hzr : LRel ρ (repl len (vcells z)) ((Array.range (len * s)).map (fun i => z.cells[i % z.cells.size]!)).toList := by
        rw [← hzs, repl_cells]
        exact repl_rel hzl len
      obtain ⟨d', hd', hl⟩ := fill_rel _ parts.toList ps hps hev _ c' _ hzr hf
      refine Sim.value (v' := .slice (some ⟨w.heap.size, 0, none⟩) len len) ?_ ?_ (step_new' h c' d' e e 0 hl)
      · have hd'' : Instr.fill (fun i => some (i * s, s)) ((Array.range (len * s)).map (fun i => z.cells[i % z.cells.size]!)) (parts.map fun x => (x.1, ev' x.2)).toList = some d' := by simpa using hd'
        simp only [Instr.buildSlice, Sem.run_bind, run_underlying hu, Result.andThen_ok, run_sizeT hs]
        rw [if_neg (by omega), if_neg h0]
        simp only [Sem.run_bind, Sem.run_pure, Result.andThen_ok, run_zeroT hz]
        rw [hd'']
        simp [newRow]
      · exact .slice _ _ _ _ _ (with_ad _ _ _ rfl) (Nat.le_refl _) (.inl rfl)

/-! ### Reads and writes -/

theorem ptr_inv {x : Value} {a : Addr} (hx : VRel ρ (.pointer (some a)) x) : ∃ a', x = .pointer (some a') ∧ AdRel ρ a a' := by
  cases hx with
  | ptr a a' h => exact ⟨a', rfl, h⟩

theorem add_zero_ad (a' : Addr) : a'.add 0 = a' := by simp [Addr.add]

theorem sim_load (h : WRel P mts ρ σ w) {ev ev' : Operand → Value} {t : TypeId} {a : Operand} {ao : AOp}
    (hc : compOp0 P mts (.load t a) = some ao) (hev : VRel ρ (ev a) (ev' a)) {v : Value} {σ' : AW} (hr : aop ev ao σ = some (v, σ')) :
    Sim P mts ρ σ w (do pure (.value (← Instr.loadAt t (ev' a)))) v σ' := by
  unfold compOp0 at hc
  simp only at hc
  split at hc
  · rename_i n ha hs
    cases hc
    simp only [aop] at hr
    split at hr
    · rename_i p hp
      simp only [Option.map_eq_some_iff] at hr
      obtain ⟨cs, hl, he⟩ := hr
      cases he
      rw [hp] at hev
      obtain ⟨p', hp', had⟩ := ptr_inv hev
      obtain ⟨cs', hrun, hr⟩ := run_loadCells h had hl
      refine Sim.value (v' := .agg cs') ?_ hr.agg (.refl h)
      simp [Instr.loadAt, Instr.sureAddr, hp', loadVar, run_aggT ha, run_sizeT hs, hrun]
    · cases hr
  · rename_i ha
    cases hc
    simp only [aop] at hr
    split at hr
    · rename_i p hp
      split at hr
      · rename_i x hl
        cases hr
        rw [hp] at hev
        obtain ⟨p', hp', had⟩ := ptr_inv hev
        obtain ⟨_, c, el, z, ro, hg, _, hi⟩ := loadN_spec hl
        obtain ⟨y, hy, hrel⟩ := had.cell h hg (i := 0) (x := v) (by rw [← hi 0 (by omega)]; rfl)
        rw [add_zero_ad p'] at hy
        refine Sim.value (v' := y) ?_ hrel (.refl h)
        simp [Instr.loadAt, Instr.sureAddr, hp', loadVar, run_aggT ha, hy]
      · cases hr
    · cases hr
  · cases hc

theorem sim_store (h : WRel P mts ρ σ w) {ev ev' : Operand → Value} {t : TypeId} {a x : Operand} {ao : AOp}
    (hc : compOp0 P mts (.store t a x) = some ao) (hev : VRel ρ (ev a) (ev' a)) (hx : VRel ρ (ev x) (ev' x)) {v : Value} {σ' : AW} (hr : aop ev ao σ = some (v, σ')) :
    Sim P mts ρ σ w (do Instr.storeAt t (ev' a) (ev' x); pure .skip) v σ' := by
  unfold compOp0 at hc
  simp only [Option.map_eq_some_iff] at hc
  obtain ⟨n, hs, rfl⟩ := hc
  simp only [aop] at hr
  split at hr
  · rename_i p hp
    cases hb : lenIs (vcells (ev x)) n with
    | false => rw [hb] at hr; simp at hr
    | true =>
      rw [hb] at hr
      simp only [cond_true, Option.map_eq_some_iff] at hr
      obtain ⟨σ1, hst, he⟩ := hr
      cases he
      rw [hp] at hev
      obtain ⟨p', hp', had⟩ := ptr_inv hev
      obtain ⟨w', hrun, st⟩ := run_storeN h had hx.cells hst
      refine Sim.unit ?_ st
      have hsz : (ev' x).cells.size = n := by
        have h1 := hx.cells.1
        have h2 := lenIs_eq _ _ hb
        simp at h1; omega
      simp [Instr.storeAt, Instr.sureAddr, hp', storeVar, run_sizeT hs, hsz, hrun]
  · cases hr

theorem sim_nilCheck (h : WRel P mts ρ σ w) {ev ev' : Operand → Value} {x : Operand} (hx : VRel ρ (ev x) (ev' x)) {v : Value} {σ' : AW}
    (hr : aop ev (.nilCheck x) σ = some (v, σ')) (o : Oper) (ho : o.op = .nilCheck x) : Sim P mts ρ σ w (execOp ev' o) v σ' := by
  simp only [aop] at hr
  simp only [execOp, ho]
  generalize ev' x = x' at *
  split at hr
  · rename_i a ha
    cases hr
    rw [ha] at hx
    cases hx with
    | ptr a a' hh => exact Sim.pure h (.ptr _ _ hh)
  · rename_i t y hy
    cases hr
    rw [hy] at hx
    cases hx with
    | iface t y y' hh => exact Sim.pure h (.iface _ _ _ hh)
  · rename_i f a b hf
    cases hr
    rw [hf] at hx
    cases hx with
    | func f a b a' b' h1 h2 h3 h4 => exact Sim.pure h (.func _ _ _ _ _ h1 h2 h3 h4)
  · cases hr

/-! ### Arithmetic, comparisons -/

/-! ### Comparisons -/

theorem lenAre_eq : ∀ (ks : List PK) (xs ys : List Value), cellsEq.lenAre ks xs ys = true → xs.length = ks.length ∧ ys.length = ks.length
  | [], [], [], _ => ⟨rfl, rfl⟩
  | _ :: ks, _ :: xs, _ :: ys, h => by
    simp only [cellsEq.lenAre] at h
    have := lenAre_eq ks xs ys h
    simp; omega
  | [], _ :: _, _, h => by simp [cellsEq.lenAre] at h
  | [], [], _ :: _, h => by simp [cellsEq.lenAre] at h
  | _ :: _, [], _, h => by simp [cellsEq.lenAre] at h
  | _ :: _, _ :: _, [], h => by simp [cellsEq.lenAre] at h

theorem cellsEq_cons {k : PK} {ks : List PK} {xs ys : List Value} {b : Bool} (h : cellsEq (k :: ks) xs ys = some b) :
    ∃ x xs' y ys', xs = x :: xs' ∧ ys = y :: ys' ∧ xs'.length = ks.length ∧ ys'.length = ks.length ∧
      ((primEq k x y = some true ∧ cellsEq ks xs' ys' = some b) ∨ (primEq k x y = some false ∧ b = false)) := by
  cases xs with
  | nil => simp [cellsEq] at h
  | cons x xs =>
    cases ys with
    | nil => simp [cellsEq] at h
    | cons y ys =>
      simp only [cellsEq] at h
      refine ⟨x, xs, y, ys, rfl, rfl, ?_⟩
      split at h
      · rename_i he
        cases hl : cellsEq.lenAre ks xs ys with
        | false => simp [hl] at h
        | true => simp [hl] at h; exact ⟨(lenAre_eq _ _ _ hl).1, (lenAre_eq _ _ _ hl).2, .inl ⟨he, h⟩⟩
      · rename_i he
        cases hl : cellsEq.lenAre ks xs ys with
        | false => simp [hl] at h
        | true => simp [hl] at h; exact ⟨(lenAre_eq _ _ _ hl).1, (lenAre_eq _ _ _ hl).2, .inr ⟨he, h⟩⟩
      · cases h

theorem lenAre_mk : ∀ (ks : List PK) (xs ys : List Value), xs.length = ks.length → ys.length = ks.length → cellsEq.lenAre ks xs ys = true
  | [], [], [], _, _ => rfl
  | _ :: ks, _ :: xs, _ :: ys, h, h' => by simp only [cellsEq.lenAre]; exact lenAre_mk ks xs ys (by simpa using h) (by simpa using h')
  | [], _ :: _, _, h, _ => by simp at h
  | [], [], _ :: _, _, h => by simp at h
  | _ :: _, [], _, h, _ => by simp at h
  | _ :: _, _ :: _, [], _, h => by simp at h

theorem cellsEq_append : ∀ (ks ls : List PK) (xs ys : List Value) (b : Bool), cellsEq (ks ++ ls) xs ys = some b →
    ∃ b₁, cellsEq ks (xs.take ks.length) (ys.take ks.length) = some b₁ ∧ (b₁ = false → b = false) ∧ (b₁ = true → cellsEq ls (xs.drop ks.length) (ys.drop ks.length) = some b) := by
  intro ks
  induction ks with
  | nil => intro ls xs ys b h; exact ⟨true, by simp [cellsEq], by simp, fun _ => by simpa using h⟩
  | cons k ks ih =>
    intro ls xs ys b h
    obtain ⟨x, xs', y, ys', rfl, rfl, h1, h2, h3⟩ := cellsEq_cons (ks := ks ++ ls) h
    simp only [List.length_append] at h1 h2
    have hl : cellsEq.lenAre ks (xs'.take ks.length) (ys'.take ks.length) = true := lenAre_mk _ _ _ (by simp; omega) (by simp; omega)
    rcases h3 with ⟨he, hc⟩ | ⟨he, rfl⟩
    · obtain ⟨b₁, hb1, hb2, hb3⟩ := ih ls xs' ys' b hc
      refine ⟨b₁, ?_, hb2, by simpa using hb3⟩
      simp only [List.length_cons, List.take_succ_cons, cellsEq, he, hl, cond_true]
      exact hb1
    · refine ⟨false, ?_, fun _ => rfl, by simp⟩
      simp only [List.length_cons, List.take_succ_cons, cellsEq, he, hl, cond_true]

theorem cellsEq_len : ∀ (ks : List PK) (xs ys : List Value) (b : Bool), cellsEq ks xs ys = some b → xs.length = ks.length ∧ ys.length = ks.length := by
  intro ks xs ys b h
  cases ks with
  | nil => cases xs <;> cases ys <;> simp [cellsEq] at h <;> simp
  | cons k ks =>
    obtain ⟨x, xs', y, ys', rfl, rfl, h1, h2, _⟩ := cellsEq_cons h
    simp; omega

theorem run_equalIn_prim {t : TypeId} {d : TypeDesc} (hu : P.underlying t = some d) {k : PK} (hk : pkD d = some k) {x y : Value} {b : Bool} (he : primEq k x y = some b) (n : Nat) (w : World) :
    (Op.equalIn (n + 1) t x y).run P w = .ok b w := by
  cases d <;> simp [pkD] at hk <;> subst hk
  · cases x <;> cases y <;> simp [primEq] at he
    subst he
    simp [Op.equalIn, run_underlying hu]
  · cases x <;> cases y <;> simp [primEq] at he
    obtain ⟨rfl, rfl⟩ := he
    simp [Op.equalIn, run_underlying hu]
  · cases x <;> cases y <;> simp [primEq] at he
    subst he
    simp [Op.equalIn, run_underlying hu]

theorem pkD_agg {d : TypeDesc} {k : PK} (h : pkD d = some k) : (match d with | .struct _ | .array _ _ => true | _ => false) = false := by
  cases d <;> simp [pkD] at h <;> rfl

theorem run_part_prim {t : TypeId} {d : TypeDesc} (hu : P.underlying t = some d) {k : PK} (hk : pkD d = some k) {xs : Array Value} {o : Nat} {x : Value} (hx : xs[o]? = some x) (w : World) :
    (part t xs o).run P w = .ok x w := by
  have hagg : (isAgg t).run P w = .ok false w := run_aggT (b := false) (by simp [aggT, hu]; have := pkD_agg hk; cases d <;> simp_all) w
  simp [part, hagg, hx]

theorem run_part_agg {t : TypeId} {fs : Array Field} (hu : P.underlying t = some (.struct fs)) {s : Nat} (hs : sizeT P t = some s) (xs : Array Value) (o : Nat) (w : World) :
    (part t xs o).run P w = .ok (.agg (xs.extract o (o + s))) w := by
  have hagg : (isAgg t).run P w = .ok true w := run_aggT (b := true) (by simp [aggT, hu]) w
  simp [part, hagg, run_sizeT hs]

theorem run_flatF (n : Nat) (ih : ∀ (t : TypeId) (ks : List PK), flat P n t = some ks → ∀ (d : Nat) (xs ys : Array Value) (b : Bool) (w : World), n < d →
      cellsEq ks xs.toList ys.toList = some b → (Op.equalIn d t (.agg xs) (.agg ys)).run P w = .ok b w) (d : Nat) (hd : n < d) (xs ys : Array Value) (w : World) :
    ∀ (fs : List Field) (m : Nat) (ks : List PK), flatF P (flat P n) m fs = some ks → ∀ b, cellsEq ks (xs.toList.drop m) (ys.toList.drop m) = some b →
      (Op.eqFields d xs ys fs).run P w = .ok b w := by
  intro fs
  induction fs with
  | nil =>
    intro m ks hf b hc
    simp only [flatF, Option.some.injEq] at hf; subst hf
    have : b = true := by
      generalize xs.toList.drop m = l at hc
      generalize ys.toList.drop m = l' at hc
      cases l <;> cases l' <;> simp [cellsEq] at hc <;> exact hc
    subst this
    simp [Op.eqFields]
  | cons f fs ihf =>
    intro m ks hf b hc
    simp only [flatF] at hf
    cases hb : f.name != "_" && Nat.beq f.offset m with
    | false => rw [hb] at hf; simp at hf
    | true =>
      rw [hb] at hf
      rw [Bool.and_eq_true] at hb
      have hname : f.name ≠ "_" := by simpa using hb.1
      have hoff : f.offset = m := Nat.eq_of_beq_eq_true hb.2
      simp only [cond_true] at hf
      simp only [Op.eqFields, ne_eq, hname, not_false_eq_true, if_true, Sem.run_bind, hoff]
      split at hf
      · rename_i fs' s hu hs
        split at hf
        · rename_i k1 l1 hk1 hl1
          cases hsz : Nat.beq k1.length s with
          | false => rw [hsz] at hf; simp at hf
          | true =>
            rw [hsz] at hf
            have hsz' := Nat.eq_of_beq_eq_true hsz
            simp only [cond_true, Option.some.injEq] at hf; subst hf
            obtain ⟨b1, hb1, hb2, hb3⟩ := cellsEq_append _ _ _ _ _ hc
            rw [hsz'] at hb1 hb3
            rw [run_part_agg hu hs, Result.andThen_ok, run_part_agg hu hs, Result.andThen_ok]
            have e1 : (xs.extract m (m + s)).toList = (xs.toList.drop m).take s := by simp [List.take_drop]
            have e2 : (ys.extract m (m + s)).toList = (ys.toList.drop m).take s := by simp [List.take_drop]
            rw [ih f.type k1 hk1 d _ _ b1 w hd (by rw [e1, e2]; exact hb1), Result.andThen_ok]
            cases b1 with
            | false => simp [hb2 rfl]
            | true =>
              simp only [Bool.not_true, Bool.false_eq_true, if_false]
              refine ihf (m + s) l1 hl1 b ?_
              have := hb3 rfl
              simpa [List.drop_drop, Nat.add_comm] using this
        · cases hf
      · rename_i dd s hne hu hs
        split at hf
        · rename_i k1 l1 hk1 hl1
          cases hsz : Nat.beq s 1 with
          | false => rw [hsz] at hf; simp at hf
          | true =>
            rw [hsz] at hf
            simp only [cond_true, Option.some.injEq] at hf; subst hf
            obtain ⟨x, xs', y, ys', hx, hy, _, _, h3⟩ := cellsEq_cons hc
            have hxm : xs[m]? = some x := by
              have : (xs.toList.drop m)[0]? = some x := by rw [hx]; rfl
              simpa using this
            have hym : ys[m]? = some y := by
              have : (ys.toList.drop m)[0]? = some y := by rw [hy]; rfl
              simpa using this
            rw [run_part_prim hu hk1 hxm, Result.andThen_ok, run_part_prim hu hk1 hym, Result.andThen_ok]
            obtain ⟨d', rfl⟩ : ∃ d', d = d' + 1 := ⟨d - 1, by omega⟩
            rcases h3 with ⟨he, hc'⟩ | ⟨he, rfl⟩
            · rw [run_equalIn_prim hu hk1 he, Result.andThen_ok]
              simp only [Bool.not_true, Bool.false_eq_true, if_false]
              refine ihf (m + 1) l1 hl1 b ?_
              have e1 : xs.toList.drop (m + 1) = xs' := by rw [← List.drop_drop, hx]; rfl
              have e2 : ys.toList.drop (m + 1) = ys' := by rw [← List.drop_drop, hy]; rfl
              rw [e1, e2]; exact hc'
            · rw [run_equalIn_prim hu hk1 he, Result.andThen_ok]
              simp
        · cases hf
      · cases hf

theorem run_flat : ∀ (n : Nat) (t : TypeId) (ks : List PK), flat P n t = some ks → ∀ (d : Nat) (xs ys : Array Value) (b : Bool) (w : World), n < d →
      cellsEq ks xs.toList ys.toList = some b → (Op.equalIn d t (.agg xs) (.agg ys)).run P w = .ok b w := by
  intro n
  induction n with
  | zero => intro t ks h; simp [flat] at h
  | succ n ih =>
    intro t ks h d xs ys b w hd hc
    simp only [flat] at h
    split at h
    · rename_i fs hu
      cases hs : P.stoodInHeld t with
      | true => rw [hs] at h; simp at h
      | false =>
        rw [hs] at h
        simp only [Bool.not_false, cond_true] at h
        obtain ⟨d', rfl⟩ : ∃ d', d = d' + 1 := ⟨d - 1, by omega⟩
        have hfo : P.fieldsOf t = fs := by simp [Program.fieldsOf, hu]
        rw [run_equalIn_struct w d' t xs ys (by rw [hfo]; exact hu) hs, hfo]
        exact run_flatF n ih d' (by omega) xs ys w fs.toList 0 ks h b (by simpa using hc)
    · cases h

end
end Go.AM
