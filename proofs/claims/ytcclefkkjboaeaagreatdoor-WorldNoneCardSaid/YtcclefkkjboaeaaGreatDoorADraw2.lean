/- Regions whose order is drawn: one operation more; the whole. -/
import Derived.Test.YtcclefkkjboaeaaGreatDoorADraw

namespace Go.AM
open Go

section
variable {P : Program} {mts : List TypeId}
variable {F : FuncId → Option AFunc} {ex : Exec}
variable {C : Ctx P mts F ex} {ρ₀ : Rho} {w₀ : World} {ds : List Deferred} {L : Nat → Bool} {a : Act} {w : World} {c : Nat} {ρ : Rho}

theorem aev_congr {tm tm' : T Value} {x : Operand} (h : ∀ t, x = .tmp t → tm.get t = tm'.get t) : aev tm x = aev tm' x := by
  cases x with
  | tmp t => simp only [aev, h t rfl]
  | _ => rfl

theorem mem_tmpsIn {t : Nat} : ∀ {l : List Operand}, Operand.tmp t ∈ l → t ∈ tmpsIn l := by
  intro l
  induction l with
  | nil => intro h; cases h
  | cons x l ih =>
    intro h
    cases x with
    | tmp u =>
      simp only [tmpsIn]
      rcases List.mem_cons.1 h with h | h
      · cases h; exact List.mem_cons_self ..
      · exact List.mem_cons_of_mem _ (ih h)
    | _ =>
      simp only [tmpsIn]
      rcases List.mem_cons.1 h with h | h
      · cases h
      · exact ih h

theorem map_congr' {ev ev' : Operand → Value} {o : Option Operand} (h : ∀ x, x ∈ o.toList → ev x = ev' x) : o.map ev = o.map ev' := by
  cases o with
  | none => rfl
  | some x => simp only [Option.map_some, h x (by simp)]

theorem read_congr {ev ev' : Operand → Value} {op : AOp} {σ : AW} (hc : clsOf op = .read) (h : ∀ x, x ∈ rdOpds op → ev x = ev' x) : aop ev op σ = aop ev' op σ := by
  cases op with
  | load1 a => simp only [aop, h a (by simp [rdOpds])]
  | loadN n a => simp only [aop, h a (by simp [rdOpds])]
  | lookup pk z ok m k => simp only [aop, h m (by simp [rdOpds]), h k (by simp [rdOpds])]
  | lenMap x => simp only [aop, h x (by simp [rdOpds])]
  | convBytesStr x => simp only [aop, h x (by simp [rdOpds])]
  | slice k x lo hi mx =>
    cases k with
    | sl e =>
      simp only [aop, h x (by simp [rdOpds])]
      rw [map_congr' (o := lo) (fun y hy => h y (by simp only [rdOpds, List.mem_cons, List.mem_append]; exact .inr (.inl (.inl hy)))),
        map_congr' (o := hi) (fun y hy => h y (by simp only [rdOpds, List.mem_cons, List.mem_append]; exact .inr (.inl (.inr hy)))),
        map_congr' (o := mx) (fun y hy => h y (by simp only [rdOpds, List.mem_cons, List.mem_append]; exact .inr (.inr hy)))]
    | _ => cases hc
  | _ => cases hc

/-- What an operation that reads gave in the plan's order, it gives still. -/
theorem Inv.reads (h : Inv C ρ₀ w₀ ds L a w c ρ) {q : Nat} (hqc : q < c) (hL : L (C.ord q) = false) {ao : AOper} (ha : C.as[C.ord q]? = some ao) (hcls : clsOf ao.op = .read)
    (hw : wanted (C.T' q) ao.guard = true) {v : Value} (hop : aop (aev (C.T' q)) ao.op (C.S q) = some (v, C.S (q + 1))) (hT : C.T' (q + 1) = putD (C.T' q) ao.dst v) :
    ∀ p, q + 1 ≤ p → p ≤ c → aop (aev (C.T' q)) ao.op (C.S p) = some (v, C.S p) := by
  have hcn := h.cle
  intro p
  induction p with
  | zero => intro h1; omega
  | succ p ih =>
    intro h1 h2
    rcases Nat.lt_or_ge q p with hqp | hqp
    · have ihp := ih (by omega) (by omega)
      cases hact : actAt C.as (C.ord p) with
      | false =>
        rcases C.S_calm (p := p) (by omega) hact with e | ⟨o, e⟩
        · rw [e]; exact ihp
        · rw [e]; exact (read_same hcls ihp).2 (h.fresh p (by omega) _ (Nat.le_refl _)) o
      | true =>
        have hLp := h.acts p (by omega) hact
        obtain ⟨e, ag, hl, he⟩ := C.at_ord (p := p) (by omega)
        have hpa := (C.plan.agn p (by omega) e ag hl)
        have hrd : readAt C.as (C.ord q) = true := by simp [readAt, ha, isRead, hcls]
        rw [he] at hact
        have hin : C.ord q ∈ ag := by
          rcases hpa.2 hact q hqp hrd with hb | hb
          · rw [← he] at hb
            have := h.closedL (p := p) (by omega) hLp (C.ord_lt (by omega)) hb
            rw [hL] at this; cases this
          · exact hb
        have hnw := (hpa.1 _ hin).2
        obtain ⟨ao', ha', hag⟩ := C.agn p (by omega) e ag hl _ hin
        rw [ha] at ha'; cases ha'
        have hsame : ∀ t, t ∈ guardTmp ao.guard ++ tmpsIn (rdOpds ao.op) → (C.T' (p + 1)).get t = (C.T' q).get t := by
          intro t ht
          refine C.T_keep q (p + 1) (by omega) (by omega) fun r hr1 hr2 hd => ?_
          simp only [noWar, ha, List.all_eq_true, List.mem_range] at hnw
          have := hnw (C.ord r) (C.ord_lt (by omega))
          rw [hd] at this
          simp only [Bool.or_eq_true, Bool.not_eq_true', Bool.and_eq_true] at this
          rcases this with hh | hh
          · rw [List.contains_iff_mem.2 ht] at hh; cases hh
          · obtain ⟨r', hr', e'⟩ := C.bitpos q (by omega) _ (C.ord_lt (by omega)) hh.1
            have := C.ordInj (p := r') (q := r) (by omega) (by omega) e'
            omega
        have hw' : wanted (C.T' (p + 1)) ao.guard = true := by
          rw [← hw]
          cases hg : ao.guard with
          | none => rfl
          | some g =>
            obtain ⟨t, b⟩ := g
            simp only [wanted, hsame t (by simp [hg, guardTmp])]
        obtain ⟨v2, σ2, d, ho2, hd2, hg2⟩ := hag hw'
        have hcong : aop (aev (C.T' (p + 1))) ao.op (C.S (p + 1)) = aop (aev (C.T' q)) ao.op (C.S (p + 1)) :=
          read_congr hcls fun x hx => aev_congr fun t e => by subst e; exact hsame t (List.mem_append.2 (.inr (mem_tmpsIn hx)))
        rw [hcong] at ho2
        have hσ2 := (read_same hcls ho2).1
        have hdo : dstOf C.as (C.ord q) = some d := by simp [dstOf, ha, hd2]
        have hv : (C.T' (p + 1)).get d = some v := by
          rw [C.T_keep (q + 1) (p + 1) (by omega) (by omega) fun r hr1 hr2 hd => ?_, hT, hd2]
          · simp [putD]
          · exact C.plan.one _ (C.ord_lt (p := q) (by omega)) _ (C.ord_lt (p := r) (by omega)) (fun e => by have := C.ordInj (p := q) (q := r) (by omega) (by omega) e; omega) d hdo hd
        rw [hg2] at hv; cases hv
        rw [ho2, hσ2]
    · have : p = q := by omega
      subst this
      have := (read_same hcls hop).1
      rw [this] at hop ⊢; exact hop

theorem put_getD (a : Act) (d t : Nat) (v' : Value) (hd : d < a.tmps.size) : (a.put (some d) v').tmps.getD t undef = if t = d then v' else a.tmps.getD t undef := by
  simp only [Act.put]
  by_cases h : t = d
  · subst h; simp [hd]
  · rw [if_neg h]
    simp [Array.getElem?_setIfInBounds_ne (fun e => h e.symm)]

def also (L : Nat → Bool) (i : Nat) : Nat → Bool := fun j => if j = i then true else L j

theorem also_self (L : Nat → Bool) (i : Nat) : also L i i = true := by simp [also]
theorem also_ne {L : Nat → Bool} {i j : Nat} (h : j ≠ i) : also L i j = L j := by simp [also, h]
theorem also_of {L : Nat → Bool} {i j : Nat} (h : L j = true) : also L i j = true := by unfold also; split <;> simp [h]
theorem also_false {L : Nat → Bool} {i j : Nat} (h : also L i j = false) : j ≠ i ∧ L j = false := by
  unfold also at h; split at h
  · cases h
  · rename_i hne; exact ⟨hne, h⟩

theorem Inv.wrote' (h : Inv C ρ₀ w₀ ds L a w c ρ) {q : Nat} (hq : q < C.n) {ao : AOper} (ha : C.as[C.ord q]? = some ao) {ρ' : Rho} (hle : ρ.le ρ') {v' : Value}
    (hv : ∀ d, ao.dst = some d → VRel ρ' (((C.T' (q + 1)).get d).getD undef) v') (hd : ∀ d, ao.dst = some d → d < a.tmps.size) :
    (∀ r, r < C.n → also L (C.ord q) (C.ord r) = true → ∀ t, dstOf C.as (C.ord r) = some t → VRel ρ' (((C.T' (r + 1)).get t).getD undef) ((a.put ao.dst v').tmps.getD t undef)) ∧
    (∀ t, (∀ r, r < C.n → dstOf C.as (C.ord r) = some t → also L (C.ord q) (C.ord r) = false) → VRel ρ' (((C.T' 0).get t).getD undef) ((a.put ao.dst v').tmps.getD t undef)) := by
  constructor
  · intro r hr hLr t ht
    by_cases e : C.ord r = C.ord q
    · have := C.ordInj hr hq e
      subst this
      have hdt : ao.dst = some t := by simpa [dstOf, ha] using ht
      rw [hdt, put_getD _ _ _ _ (hd t hdt), if_pos rfl]
      exact hv t hdt
    · rw [also_ne e] at hLr
      have hw := (h.wrote r hr hLr t ht).mono hle
      cases hds : ao.dst with
      | none => exact hw
      | some d =>
        have hne : t ≠ d := by
          intro e2; subst e2
          exact C.plan.one _ (C.ord_lt hr) _ (C.ord_lt hq) e t ht (by simp [dstOf, ha, hds])
        rw [put_getD _ _ _ _ (hd d hds), if_neg hne]; exact hw
  · intro t ht
    have hk := (h.kept t fun r hr e => (also_false (ht r hr e)).2).mono hle
    cases hds : ao.dst with
    | none => exact hk
    | some d =>
      have hne : t ≠ d := by
        intro e2; subst e2
        have := ht q hq (by simp [dstOf, ha, hds])
        rw [also_self] at this; cases this
      rw [put_getD _ _ _ _ (hd d hds), if_neg hne]; exact hk

theorem value_step {b : Frame} {k : List Item} {cs : List Frame} {ops : Array Oper} {i : Nat} {rest : List Nat} {o : Oper} {ao : AOp} {w' : World} {v' : Value}
    (ho : ops[i]? = some o) (hw : Region.wanted o (yielded ops a.tmps) = true) (hc0 : compOp0 P mts o.op = some ao) (hrun : (execOp a.eval o).run P w = .ok (.value v') w') :
    step P (lone (b.atR a (.inRegion ops (i :: rest) :: k)) cs w) = .next (lone (b.atR (a.put o.dst v') (.inRegion ops rest :: k)) cs w') := by
  have hfin : ∀ v, (b.atR a (.inRegion ops (i :: rest) :: k)).finish v = b.atR (a.put o.dst v) (.inRegion ops rest :: k) := by
    intro v; rw [Frame.finish_atR, ho]; rfl
  have hdef : ∀ c, o.op ≠ .defer c := by
    intro c e; rw [e] at hc0; simp [compOp0] at hc0
  have hstep := stepGR_op (P := P) (b := b) (k := k) (cs := cs) (w := w) (rest := rest) ho hw
  rw [Oper.semAt_eq _ _ _ hdef] at hstep
  refine step_lone_go ?_
  rw [hstep, ← hfin]
  simp [stepG.apply, hrun]

theorem compOp_0 {op : Op} {ao : AOp} (h : compOp P mts op = some ao) : compOp0 P mts op = some ao := by
  unfold compOp at h
  cases hb : op.operands.toList.all opdOk with
  | false => rw [hb] at h; cases h
  | true => rw [hb] at h; exact h

/-- One operation more, whichever is ready. -/
theorem Inv.pick (hF : FunsOK P mts F ex) (hg : GlobOK ρ₀) (h : Inv C ρ₀ w₀ ds L a w c ρ) (hc : c = C.n ∨ actAt C.as (C.ord c) = true) {i : Nat} (hi : i < C.n) (hLi : L i = false)
    (he : ∀ j, j ∈ edges C.ops i → L j = true) (b : Frame) (k : List Item) (cs : List Frame) (rest : List Nat) :
    ∃ a' w' c' ρ', Steps P (lone (b.atR a (.inRegion C.ops (i :: rest) :: k)) cs w) (lone (b.atR a' (.inRegion C.ops rest :: k)) cs w') ∧
      Inv C ρ₀ w₀ ds (also L i) a' w' c' ρ' ∧ (c' = C.n ∨ actAt C.as (C.ord c') = true) := by
  obtain ⟨q, hq, hqi⟩ := C.plan.all i hi
  have hqi : C.ord q = i := hqi
  subst hqi
  have hcn := h.cle
  have hgρ := hg.mono h.st.le
  have hqc : q ≤ c := by
    rcases Nat.lt_or_ge c q with h1 | h1
    · rcases hc with e | hact
      · omega
      · have hb := C.plan.act q hq c h1 hact
        have := h.closed q hq he _ (C.ord_lt (by omega)) hb
        rw [h.un c (Nat.le_refl _) (by omega)] at this; cases this
    · exact h1
  -- the operation, in the model and in the abstract machine
  have hio : C.ord q < C.ops.size := by rw [C.plan.osz]; exact C.ord_lt hq
  obtain ⟨o, ho⟩ : ∃ o, C.ops[C.ord q]? = some o := ⟨C.ops[C.ord q], by simp [hio]⟩
  obtain ⟨ao, ha, hcomp⟩ := C.comp _ o ho
  obtain ⟨hc1, hc2, hc3, hc4⟩ := compOper_spec hcomp
  have hc0 := compOp_0 hc1
  have hlook : ∀ t, t ∈ guardTmp ao.guard ++ tmpsIn o.op.operands.toList → VRel ρ (((C.T' q).get t).getD undef) (a.tmps.getD t undef) := by
    intro t ht
    exact h.look hq hLi he (by simp only [looks, ho, ha]; exact ht)
  have hev : ∀ x, x ∈ o.op.operands.toList → VRel ρ (aev (C.T' q) x) (a.eval x) := by
    intro x hx
    have hok := compOp_opds hc1 x hx
    cases x with
    | tmp t => exact hlook t (List.mem_append.2 (.inr (mem_tmpsIn hx)))
    | const v => exact const_rel ρ hok
    | global g => exact hgρ.rel (by simpa [opdOk] using hok)
    | func f => exact .func f _ _ _ _ rfl (fun i x y h => by simp at h) rfl (fun i x y h => by simp at h)
  have hwt : Region.wanted o (yielded C.ops a.tmps) = wanted (C.T' q) ao.guard :=
    wanted_rel hc2 (fun t b e => hlook t (List.mem_append.2 (.inl (by simp [e, guardTmp]))))
  obtain ⟨ao', ha', hr⟩ := C.run q hq
  rw [ha] at ha'; cases ha'
  have hdlt : ∀ d, ao.dst = some d → d < a.tmps.size := by
    intro d e; rw [h.size]; exact hc4 d (hc3 ▸ e)
  have hclo' : ∀ i, i < C.n → also L (C.ord q) i = true → ∀ j, j ∈ edges C.ops i → also L (C.ord q) j = true := by
    intro i' hi' hL' j hj
    by_cases e : i' = C.ord q
    · subst e; exact also_of (he j hj)
    · rw [also_ne e] at hL'; exact also_of (h.clo i' hi' hL' j hj)
  have hacts' : ∀ r, r < c → actAt C.as (C.ord r) = true → also L (C.ord q) (C.ord r) = true := fun r hr' e => also_of (h.acts r hr' e)
  have hun' : ∀ r, q < r → c ≤ r → r < C.n → also L (C.ord q) (C.ord r) = false := by
    intro r h1 h2 h3
    rw [also_ne (fun e => by have := C.ordInj h3 hq e; omega)]
    exact h.un r h2 h3
  -- how it ends, at a position that has been passed, and at the next one
  have fin1 : ∀ {a' w' ρ' v'}, q < c → a' = a.put ao.dst v' → ρ.le ρ' → Step P mts ρ₀ (C.S 0) w₀ ρ' (C.S c) w' → (∀ d, ao.dst = some d → VRel ρ' (((C.T' (q + 1)).get d).getD undef) v') →
      (∀ r, r < c → r ≠ q → L (C.ord r) = false → ∀ o, C.S (r + 1) = (C.S r).push o → ρ' (C.S r).next = none) → Inv C ρ₀ w₀ ds (also L (C.ord q)) a' w' c ρ' := by
    intro a' w' ρ' v' hqc' ea hle hst hv hmade
    subst ea
    obtain ⟨hw1, hw2⟩ := h.wrote' hq ha hle hv hdlt
    exact { clo := hclo', cle := hcn, acts := hacts', un := fun r h1 h2 => hun' r (by omega) h1 h2, st := hst, size := by rw [put_size]; exact h.size, defs := by rw [put_defers]; exact h.defs,
            wrote := hw1, kept := hw2, mono := h.mono, fresh := h.fresh
            made := fun r hr1 hr2 o' ho' => by
              obtain ⟨hne, hLr⟩ := also_false hr2
              exact ⟨hmade r hr1 (fun e => hne (by rw [e])) hLr o' ho', (h.made r hr1 hLr o' ho').2⟩ }
  have fin2 : ∀ {a' w' ρ' v'}, q = c → a' = a.put ao.dst v' → Step P mts ρ (C.S c) w ρ' (C.S (c + 1)) w' → (∀ d, ao.dst = some d → VRel ρ' (((C.T' (q + 1)).get d).getD undef) v') →
      Inv C ρ₀ w₀ ds (also L (C.ord q)) a' w' (c + 1) ρ' := by
    intro a' w' ρ' v' hqc' ea hst hv
    subst ea
    obtain ⟨hw1, hw2⟩ := h.wrote' hq ha hst.le hv hdlt
    refine { clo := hclo', cle := by omega, acts := ?_, un := fun r h1 h2 => hun' r (by omega) (by omega) h2, st := h.st.trans hst, size := by rw [put_size]; exact h.size, defs := by rw [put_defers]; exact h.defs,
             wrote := hw1, kept := hw2, made := ?_, mono := ?_, fresh := ?_ }
    · intro r hr e
      rcases Nat.lt_or_ge r c with h1 | h1
      · exact hacts' r h1 e
      · have : r = q := by omega
        subst this; exact also_self ..
    · intro r hr1 hr2 o' ho'
      obtain ⟨hne, hLr⟩ := also_false hr2
      have hrc : r < c := by
        rcases Nat.lt_or_ge r c with h1 | h1
        · exact h1
        · have : r = q := by omega
          subst this; exact absurd rfl hne
      obtain ⟨m1, m2⟩ := h.made r hrc hLr o' ho'
      have hlt : (C.S r).next < (C.S c).next := by
        have h1 := h.monoLe (p := r + 1) c (by omega) (Nat.le_refl _)
        rw [ho'] at h1
        simp only [AW.push] at h1
        omega
      refine ⟨?_, by rw [hst.aframe _ hlt m1]; exact m2⟩
      cases e : ρ' (C.S r).next with
      | none => rfl
      | some m => have := hst.new _ m m1 e; omega
    · intro r hr
      rcases Nat.lt_or_ge r c with h1 | h1
      · exact h.mono r h1
      · have : r = c := by omega
        subst this; exact hst.next
    · intro r hr bb hb
      rcases Nat.lt_or_ge r (c + 1) with h1 | h1
      · exact h.fresh r (by omega) bb hb
      · have : r = c + 1 := by omega
        subst this; exact hst.rel.fresh bb hb
  have last : ∀ {a' w' ρ'}, Inv C ρ₀ w₀ ds (also L (C.ord q)) a' w' (c + 1) ρ' → ∃ c', Inv C ρ₀ w₀ ds (also L (C.ord q)) a' w' c' ρ' ∧ (c' = C.n ∨ actAt C.as (C.ord c') = true) :=
    fun h' => Inv.advanceAll _ rfl h'
  unfold runOper at hr
  cases hb : wanted (C.T' q) ao.guard with
  | false =>
    rw [hb] at hr hwt
    simp only [cond_false, Option.some.injEq, Prod.mk.injEq] at hr
    have hstep := stepR_op_skip (P := P) (b := b) (a := a) (k := k) (cs := cs) (w := w) (ops := C.ops) (i := C.ord q) (rest := rest) (by simp [ho, hwt])
    simp only [ho, Option.bind_some] at hstep
    have hv : ∀ d, ao.dst = some d → VRel ρ (((C.T' (q + 1)).get d).getD undef) undef := by
      intro d e; rw [← hr.1, e]; simp [putD]; exact undef_rel ρ
    rw [hc3] at hdlt
    rcases Nat.lt_or_ge q c with h1 | h1
    · exact ⟨_, _, c, ρ, .one hstep, fin1 (v' := undef) h1 (by rw [hc3]) (.refl _) h.st hv (fun r hr1 _ hLr o' ho' => (h.made r hr1 hLr o' ho').1), hc⟩
    · have hqc' : q = c := by omega
      have hS : C.S (c + 1) = C.S c := by rw [← hqc', hr.2]
      obtain ⟨c', hI, hc'⟩ := last (fin2 (v' := undef) (ρ' := ρ) (w' := w) hqc' (by rw [hc3]) (by rw [hS]; exact .refl h.st.rel) hv)
      exact ⟨_, _, c', ρ, .one hstep, hI, hc'⟩
  | true =>
    rw [hb] at hr hwt
    simp only [cond_true] at hr
    split at hr
    case h_2 => cases hr
    rename_i v σ₂ hop
    simp only [Option.some.injEq, Prod.mk.injEq] at hr
    obtain ⟨hT, hS⟩ := hr
    subst hS
    have hgetd : ∀ {ρ' : Rho} {v' : Value}, VRel ρ' v v' → ∀ d, ao.dst = some d → VRel ρ' (((C.T' (q + 1)).get d).getD undef) v' := by
      intro ρ' v' hv d e; rw [← hT, e]; simpa [putD] using hv
    rcases Nat.lt_or_ge q c with h1 | h1
    · have hact : actAt C.as (C.ord q) = false := by
        cases hact : actAt C.as (C.ord q) with
        | false => rfl
        | true => have := h.acts q h1 hact; rw [hLi] at this; cases this
      have hcls := C.act_cls ha hact
      rw [Ctx.aoper_aop hcls] at hop
      -- what stands as it stood: as it would be done now
      have calm : aop (aev (C.T' q)) ao.op (C.S c) = some (v, C.S c) → ∃ a' w' c' ρ', Steps P (lone (b.atR a (.inRegion C.ops (C.ord q :: rest) :: k)) cs w) (lone (b.atR a' (.inRegion C.ops rest :: k)) cs w') ∧
          Inv C ρ₀ w₀ ds (also L (C.ord q)) a' w' c' ρ' ∧ (c' = C.n ∨ actAt C.as (C.ord c') = true) := by
        intro hnow
        obtain ⟨ρ', v', w', hs, hv, hst⟩ := oper_step hF (b := b) (k := k) (cs := cs) (rest := rest) ho hwt hc1 h.st.rel hgρ hev (by rw [Ctx.aoper_aop hcls]; exact hnow)
        refine ⟨_, w', c, ρ', hs, fin1 h1 (by rw [hc3]) hst.le (h.st.trans hst) (hgetd hv) ?_, hc⟩
        intro r hr1 _ hLr o' ho'
        obtain ⟨m1, _⟩ := h.made r hr1 hLr o' ho'
        have hlt : (C.S r).next < (C.S c).next := by
          have h2 := h.monoLe (p := r + 1) c (by omega) (Nat.le_refl _)
          rw [ho'] at h2
          simp only [AW.push] at h2
          omega
        cases e : ρ' (C.S r).next with
        | none => rfl
        | some m => have := hst.new _ m m1 e; omega
      cases hk : clsOf ao.op with
      | pure => exact calm ((pure_same hk hop).2 _)
      | read => exact calm (h.reads h1 hLi ha hk hb hop hT.symm c (by omega) (Nat.le_refl _))
      | make =>
        obtain ⟨obj, hpush, v', m, oc, hrun, hmc, hobj, hvr⟩ := make_sim o hc0 hev hk hop w
        obtain ⟨m1, m2⟩ := h.made q h1 hLi obj hpush
        have hlt : (C.S q).next < (C.S c).next := by
          have h2 := h.monoLe (p := q + 1) c (by omega) (Nat.le_refl _)
          rw [hpush] at h2
          simp only [AW.push] at h2
          omega
        have hst := step_mid h.st hlt m1 m2 (h.monoLe q (by omega) (by omega)) hmc hobj
        refine ⟨_, _, c, ρ.with (C.S q).next m, .one (value_step ho hwt hc0 hrun), fin1 h1 (by rw [hc3]) (Rho.with_le m1) hst (hgetd (hvr _ (Rho.with_same ..))) ?_, hc⟩
        intro r hr1 hne hLr o' ho'
        obtain ⟨r1, _⟩ := h.made r hr1 hLr o' ho'
        have hneq : (C.S r).next ≠ (C.S q).next := by
          rcases Nat.lt_or_ge r q with h3 | h3
          · have h2 := h.monoLe (p := r + 1) q (by omega) (by omega)
            rw [ho'] at h2
            simp only [AW.push] at h2
            omega
          · have h2 := h.monoLe (p := q + 1) r (by omega) (by omega)
            rw [hpush] at h2
            simp only [AW.push] at h2
            omega
        simp [Rho.with, hneq, r1]
      | act => exact absurd hk hcls
    · have hqc' : q = c := by omega
      subst hqc'
      obtain ⟨ρ', v', w', hs, hv, hst⟩ := oper_step hF (b := b) (k := k) (cs := cs) (rest := rest) ho hwt hc1 h.st.rel hgρ hev hop
      obtain ⟨c', hI, hc'⟩ := last (fin2 rfl (by rw [hc3]) hst (hgetd hv))
      exact ⟨_, w', c', ρ', hs, hI, hc'⟩

end
end Go.AM
