/- Each operation but calls, one by one: the rest. -/
import Derived.Test.YtcclefkkjboaeaaGreatDoorAOps3

namespace Go.AM
open Go

section
variable {P : Program} {mts : List TypeId} {ρ : Rho} {σ : AW} {w : World}

theorem sim_bin (h : WRel P mts ρ σ w) {ev ev' : Operand → Value} {op : BinOp} {t yt : TypeId} {x y : Operand} {ao : AOp}
    (hc : compOp0 P mts (.binOp op t x y yt) = some ao) (hx : VRel ρ (ev x) (ev' x)) (hy : VRel ρ (ev y) (ev' y)) {v : Value} {σ' : AW} (hr : aop ev ao σ = some (v, σ')) :
    Sim P mts ρ σ w (valOf (do eqGuard op t x y (ev' x) (ev' y); binOp op t (ev' x) (ev' y))) v σ' := by
  have key : ∃ eq, ao = .bin op eq x y ∧ ((op = .eql ∨ op = .neq) → eqT P t = some eq) := by
    unfold compOp0 at hc
    simp only at hc
    split at hc
    · simp only [Option.map_eq_some_iff] at hc
      obtain ⟨e, he, rfl⟩ := hc
      exact ⟨e, rfl, fun _ => he⟩
    · simp only [Option.map_eq_some_iff] at hc
      obtain ⟨e, he, rfl⟩ := hc
      exact ⟨e, rfl, fun _ => he⟩
    · rename_i h1 h2
      split at hc
      · cases hc; exact ⟨_, rfl, fun h => by rcases h with h | h <;> simp_all⟩
      · cases hc; exact ⟨_, rfl, fun h => by rcases h with h | h <;> simp_all⟩
      · cases hc
  obtain ⟨eq, rfl, heq⟩ := key
  simp only [aop, Option.map_eq_some_iff] at hr
  obtain ⟨v1, hb, he⟩ := hr
  cases he
  revert hx hy hb
  generalize ev x = u
  generalize ev' x = u'
  generalize ev y = z
  generalize ev' y = z'
  intro hx hy hb
  by_cases h1 : ∃ k a k' b, u = .int k a ∧ z = .int k' b
  · obtain ⟨k, a, k', b, rfl, rfl⟩ := h1
    cases hx; cases hy
    obtain ⟨hrun, hv⟩ := run_binOp_int (P := P) (ρ := ρ) (t := t) hb w
    refine Sim.value (s := do eqGuard op t x y _ _; binOp op t _ _) ?_ hv (.refl h)
    rw [Sem.run_bind, eqGuard_ok (by simp) (by simp), Sem.run_pure, Result.andThen_ok]
    exact hrun
  · by_cases h2 : ∃ a b, u = .string a ∧ z = .string b
    · obtain ⟨a, b, rfl, rfl⟩ := h2
      cases hx; cases hy
      obtain ⟨hrun, hv⟩ := run_binOp_string (P := P) (ρ := ρ) (t := t) hb w
      refine Sim.value (s := do eqGuard op t x y _ _; binOp op t _ _) ?_ hv (.refl h)
      rw [Sem.run_bind, eqGuard_ok (by simp) (by simp), Sem.run_pure, Result.andThen_ok]
      exact hrun
    · have hcmp : aCmp op (aEq eq (isConst x || isConst y) u z) = some v := by
        unfold aBin at hb
        split at hb
        · exact absurd ⟨_, _, _, _, rfl, rfl⟩ h1
        · exact absurd ⟨_, _, rfl, rfl⟩ h2
        · exact hb
      have hop : op = .eql ∨ op = .neq := by
        unfold aCmp at hcmp
        split at hcmp
        · exact .inl rfl
        · exact .inr rfl
        · cases hcmp
      have ht := heq hop
      obtain ⟨b, hb'⟩ : ∃ b, aEq eq (isConst x || isConst y) u z = some b := by
        cases hh : aEq eq (isConst x || isConst y) u z with
        | none => rw [hh] at hcmp; rcases hop with rfl | rfl <;> simp [aCmp] at hcmp
        | some b => exact ⟨b, rfl⟩
      have hb2 := aEq_rel hx hy hb'
      rw [hb'] at hcmp
      rw [← hb2] at hcmp
      have hg := run_guard (op := op) ht hb2 w
      have hni : ∀ k a k' b, u' = .int k a → z' ≠ .int k' b := by
        intro k a k' b e e'
        subst e e'
        cases hx; cases hy
        exact h1 ⟨_, _, _, _, rfl, rfl⟩
      have hns : ∀ a b, u' = .string a → z' ≠ .string b := by
        intro a b e e'
        subst e e'
        cases hx; cases hy
        exact h2 ⟨_, _, rfl, rfl⟩
      obtain ⟨hrun, hv⟩ := run_binOp_eq (ρ := ρ) ht hni hns hcmp w
      refine Sim.value (s := do eqGuard op t x y u' z'; binOp op t u' z') ?_ hv (.refl h)
      rw [Sem.run_bind, hg, Result.andThen_ok]
      exact hrun

theorem sim_un (h : WRel P mts ρ σ w) {ev ev' : Operand → Value} {op : UnOp} {x : Operand} (hx : VRel ρ (ev x) (ev' x)) {v : Value} {σ' : AW}
    (hr : aop ev (.un op x) σ = some (v, σ')) : Sim P mts ρ σ w (do pure (.value (← Op.unary op (ev' x)))) v σ' := by
  simp only [aop, Option.map_eq_some_iff] at hr
  obtain ⟨v1, hb, he⟩ := hr
  cases he
  have e := pureOf_eq hb
  revert hx e
  generalize ev x = u
  generalize ev' x = u'
  intro hx e
  have hu : u' = u ∧ VRel ρ v v := by
    cases hx with
    | bool b => rcases unary_flat e (by simp) (by simp) with ⟨n, rfl⟩ | ⟨k, n, rfl⟩ <;> exact ⟨rfl, by constructor⟩
    | int k n => rcases unary_flat e (by simp) (by simp) with ⟨n, rfl⟩ | ⟨k, n, rfl⟩ <;> exact ⟨rfl, by constructor⟩
    | _ => cases op <;> simp [Op.unary, stuck, unsupported] at e
  obtain ⟨rfl, hv⟩ := hu
  exact Sim.value (by rw [e]; rfl) hv (.refl h)

theorem bytes_rel : ∀ (cs cs' : List Value) (l : List UInt8), LRel ρ cs cs' → aBytes cs = some l → aBytes cs' = some l := by
  intro cs
  induction cs with
  | nil =>
    intro cs' l hl hb
    have : cs' = [] := List.eq_nil_of_length_eq_zero hl.1.symm
    subst this; exact hb
  | cons x cs ih =>
    intro cs' l hl hb
    obtain ⟨y, ys, rfl, hxy, hl'⟩ := hl.uncons
    cases hxy <;> try (simp [aBytes] at hb; done)
    rename_i k n
    cases k <;> try (simp [aBytes] at hb; done)
    simp only [aBytes, Option.map_eq_some_iff] at hb ⊢
    obtain ⟨t, ht, rfl⟩ := hb
    exact ⟨t, ih ys t hl' ht, rfl⟩

theorem run_bytesLoop (g : Value → ByteArray → Sem (ForInStep ByteArray)) (hg : ∀ n s, g (.int .u8 n) s = pure (ForInStep.yield (s.push (UInt8.ofNat n.toNat)))) :
    ∀ (cs : List Value) (l : List UInt8) (s : ByteArray) (w : World), aBytes cs = some l → (forIn cs s g).run P w = .ok ⟨s.data ++ l.toArray⟩ w := by
  intro cs
  induction cs with
  | nil => intro l s w h; simp [aBytes] at h; subst h; simp
  | cons x cs ih =>
    intro l s w h
    unfold aBytes at h
    split at h
    · rename_i e; cases e
    · rename_i n cs' e
      cases e
      simp only [Option.map_eq_some_iff] at h
      obtain ⟨t, ht, rfl⟩ := h
      simp only [List.forIn_cons, Sem.run_bind, hg, Sem.run_pure, Result.andThen_ok]
      rw [ih t _ w ht]
      simp [ByteArray.push]
    · cases h

theorem WRel.heap {w' : World} (h : WRel P mts ρ σ w) (e : w'.heap = w.heap) : WRel P mts ρ σ w' where
  dom := fun b m hb => by rw [e]; exact h.dom b m hb
  obj := fun b m ao hb hg => by rw [e]; exact h.obj b m ao hb hg
  disj := h.disj
  fresh := h.fresh

theorem step_drawn (h : WRel P mts ρ σ w) (n : Nat) : Step P mts ρ σ w ρ σ { w with drawn := n } :=
  { Step.refl h with rel := h.heap rfl }

theorem shape_push (h : Array Obj) (arr : Array Value) (e : TypeId) (w : World) (hw : w.heap = h.push (.cells arr e)) : w.shape? h.size = some (e, arr.size) := by
  simp [World.shape?, hw]

theorem freeze_push (h : Array Obj) (arr : Array Value) (e : TypeId) (n : Nat) (w : World) (hw : w.heap = h.push (.cells arr e)) :
    w.freeze ⟨h.size, n, none⟩ 1 = { w with heap := h.push (.cells arr e (n, n + 1)) } := by
  unfold World.freeze
  rw [if_neg (by omega)]
  congr 1
  rw [hw]
  apply Array.ext_getElem?
  intro i
  rw [Array.getElem?_modify]
  simp only [Array.getElem?_push]
  by_cases hi : i = h.size
  · subst hi; simp
  · rw [if_neg (fun e => hi e.symm)]
    simp [hi]

theorem sim_conv (h : WRel P mts ρ σ w) {ev ev' : Operand → Value} {src dst : TypeId} {x : Operand} {ao : AOp}
    (hc : compOp0 P mts (.convert src dst x) = some ao) (hx : VRel ρ (ev x) (ev' x)) {v : Value} {σ' : AW} (hr : aop ev ao σ = some (v, σ')) :
    Sim P mts ρ σ w (do pure (.value (← convert src dst (ev' x)))) v σ' := by
  unfold compOp0 at hc
  simp only at hc
  split at hc
  · rename_i k1 k hs hd
    cases hc
    simp only [aop] at hr
    split at hr
    · rename_i k2 n e
      cases hr
      rw [e] at hx
      generalize ev' x = u' at hx ⊢
      cases hx
      refine Sim.value (v' := .int k (k.wrap n)) ?_ (.int _ _) (.refl h)
      simp [convert, run_underlying hs, run_underlying hd, Conv.intToInt]
    · cases hr
  · rename_i hs hd
    cases hc
    simp only [aop] at hr
    split at hr
    · rename_i s e
      cases hr
      rw [e] at hx
      generalize ev' x = u' at hx ⊢
      cases hx
      refine Sim.value (v' := .string s) ?_ (.string _) (.refl h)
      simp [convert, run_underlying hs, run_underlying hd]
    · cases hr
  · rename_i e hs hd
    split at hc
    · rename_i he
      cases hc
      simp only [aop] at hr
      split at hr
      · rename_i n c e1
        cases hr
        rw [e1] at hx
        generalize ev' x = u' at hx ⊢
        cases hx
        refine Sim.value (v' := .string .empty) ?_ (.string _) (.refl h)
        simp [convert, run_underlying hs, run_underlying hd, run_underlying he, Conv.bytesToString]
      · rename_i a n c e1
        split at hr
        · rename_i cs hl
          simp only [Option.map_eq_some_iff] at hr
          obtain ⟨l, hb, he2⟩ := hr
          cases he2
          rw [e1] at hx
          generalize ev' x = u' at hx ⊢
          have main : ∀ (a' : Addr) (c' : Nat), (∃ cs' : Array Value, (loadCells a' n).run P w = .ok cs' w ∧ LRel ρ cs cs'.toList) →
              Sim P mts ρ σ w (do pure (.value (← convert src dst (.slice (some a') n c')))) (.string ⟨⟨l⟩⟩) σ := by
            rintro a' c' ⟨cs', hrun, hrel⟩
            refine Sim.value (v' := .string ⟨⟨l⟩⟩) ?_ (.string _) (.refl h)
            have hb' := bytes_rel _ _ _ hrel hb
            simp only [convert, Sem.run_bind, run_underlying hs, run_underlying hd, Result.andThen_ok, run_underlying he, Conv.bytesToString, hrun]
            rw [← Array.forIn_toList]
            rw [run_bytesLoop _ (fun n s => rfl) cs'.toList l ByteArray.empty w hb']
            simp [ByteArray.empty, ByteArray.emptyWithCapacity]; rfl
          cases hx with
          | slice a a' n c c' had hn hcap => exact main a' c' (run_loadCells h had hl)
          | slice0 a a' mm hmm =>
            refine main a' 0 ⟨#[], by simp [loadCells, loadCellsFrom], ?_⟩
            have := (loadN_spec hl).2
            obtain ⟨_, _, _, _, _, hlen, _⟩ := this
            have : cs = [] := List.eq_nil_of_length_eq_zero hlen
            subst this; exact .nil _
        · cases hr
      · cases hr
    · cases hc
  · rename_i e hs hd
    split at hc
    · rename_i he
      cases hc
      simp only [aop] at hr
      split at hr
      · rename_i s e1
        cases hr
        rw [e1] at hx
        generalize ev' x = u' at hx ⊢
        cases hx
        have hq : (Question.appendCap s.size 0 e).forced = false := rfl
        obtain ⟨cap, hcap⟩ : ∃ cap, cap = (Question.appendCap s.size 0 e).cut (w.tape w.drawn (.appendCap s.size 0 e)) := ⟨_, rfl⟩
        have hge : s.size ≤ cap := by rw [hcap]; exact Nat.le_add_right _ _
        have h1 := (step_drawn h (w.drawn + 1))
        have hl : LRel ρ (s.data.toList.map fun b => Value.int .u8 b.toNat) ((s.data.map (fun b => Value.int .u8 b.toNat) ++ Array.replicate (cap - s.size) (Value.int .u8 0)).toList.take
            (s.data.toList.map fun b => Value.int .u8 b.toNat).length) := by
          have : (s.data.map (fun b => Value.int .u8 b.toNat) ++ Array.replicate (cap - s.size) (Value.int .u8 0)).toList.take
              (s.data.toList.map fun b => Value.int .u8 b.toNat).length = s.data.toList.map fun b => Value.int .u8 b.toNat := by simp
          rw [this]
          refine ⟨rfl, fun i x y hx hy => ?_⟩
          rw [hx] at hy; cases hy
          simp only [List.getElem?_map, Option.map_eq_some_iff] at hx
          obtain ⟨b, _, rfl⟩ := hx
          exact .int _ _
        have h2 := step_new h1.rel (s.data.toList.map fun b => Value.int .u8 b.toNat) (s.data.map (fun b => Value.int .u8 b.toNat) ++ Array.replicate (cap - s.size) (Value.int .u8 0))
          e e 1 cap (cap + 1) (by simp) hl (by intro j hj; simp at hj; omega)
        refine Sim.value (v' := .slice (some ⟨w.heap.size, 0, none⟩) s.size cap) ?_ ?_ (h1.trans h2)
        · simp only [convert, Sem.run_bind, run_underlying hs, run_underlying hd, Result.andThen_ok, run_underlying he, Conv.stringToBytes, run_choose, hq, Bool.false_eq_true, if_false, ← hcap, newRow, run_newObj, Sem.run_pure, markStringish, run_shape]
          have hsz : s.data.size = s.size := rfl
          have hle : s.size + (cap - s.size) = cap := by omega
          rw [shape_push w.heap _ e _ rfl]
          simp only [run_freeze]
          rw [freeze_push w.heap _ e _ _ rfl]
          simp [hsz, hle]
        · refine .slice _ _ _ _ _ (with_ad _ _ _ rfl) (Nat.le_refl _) (.inr ⟨hge, _, Rho.with_same _ _ _, by simp, ?_, ?_⟩)
          · have hsz : s.data.size = s.size := rfl
            simp only [List.length_map, Array.length_toList, hsz]
            omega
          · have hsz : s.data.size = s.size := rfl
            simp only [Array.size_append, Array.size_map, Array.size_replicate, hsz]
            omega
      · cases hr
    · cases hc
  · cases hc

theorem sim_makeIface (h : WRel P mts ρ σ w) {ev ev' : Operand → Value} {t : TypeId} {x : Operand} {ao : AOp}
    (hc : compOp0 P mts (.makeInterface t x) = some ao) (hx : VRel ρ (ev x) (ev' x)) {v : Value} {σ' : AW} (hr : aop ev ao σ = some (v, σ')) :
    Sim P mts ρ σ w (valOf (Instr.makeInterface t (ev' x))) v σ' := by
  unfold compOp0 at hc
  simp only at hc
  split at hc
  · cases hc
  · rename_i d hne hu
    cases hc
    simp only [aop, Option.some.injEq, Prod.mk.injEq] at hr
    obtain ⟨rfl, rfl⟩ := hr
    refine Sim.value (v' := .iface t (ev' x)) ?_ (.iface _ _ _ hx) (.refl h)
    cases d <;> simp [Instr.makeInterface, run_underlying hu] <;> exact absurd rfl (hne _)
  · cases hc

theorem map_rel {ev ev' : Operand → Value} : ∀ (l : List Operand), (∀ x ∈ l, VRel ρ (ev x) (ev' x)) → LRel ρ (l.map ev) (l.map ev')
  | [], _ => .nil _
  | x :: l, h => .cons (h x (by simp)) (map_rel l fun y hy => h y (by simp [hy]))

theorem LRel.arrays {l l' : List Value} {a a' : Array Value} (h : LRel ρ l l') (e : a.toList = l) (e' : a'.toList = l') :
    a.size = a'.size ∧ ∀ (i : Nat) (x y : Value), a[i]? = some x → a'[i]? = some y → VRel ρ x y := by
  subst e e'
  exact ⟨by simpa using h.1, fun i x y hx hy => h.2 i x y (by simpa using hx) (by simpa using hy)⟩

theorem sim_makeFunc (h : WRel P mts ρ σ w) {ev ev' : Operand → Value} {fn : Fn} {a b : Array Operand} {ao : AOp}
    (hc : compOp0 P mts (.makeFunc fn a b) = some ao) (ha : ∀ x ∈ a.toList, VRel ρ (ev x) (ev' x)) (hb : ∀ x ∈ b.toList, VRel ρ (ev x) (ev' x)) {v : Value} {σ' : AW} (hr : aop ev ao σ = some (v, σ')) :
    Sim P mts ρ σ w (valOf (Instr.makeFunc fn (a.map ev') (b.map ev'))) v σ' := by
  unfold compOp0 at hc
  simp only at hc
  split at hc
  · cases hc
    simp only [aop, Option.some.injEq, Prod.mk.injEq] at hr
    obtain ⟨rfl, rfl⟩ := hr
    rename_i f
    refine Sim.value (v' := .func (.func f) (a.map ev') (b.map ev')) (by simp [Instr.makeFunc]) ?_ (.refl h)
    obtain ⟨h1, h2⟩ := (map_rel a.toList ha).arrays (a := ⟨a.toList.map ev⟩) (a' := a.map ev') rfl (by simp)
    obtain ⟨h3, h4⟩ := (map_rel b.toList hb).arrays (a := ⟨b.toList.map ev⟩) (a' := b.map ev') rfl (by simp)
    exact .func _ _ _ _ _ h1 h2 h3 h4
  · cases hc

theorem sim_makeMap (h : WRel P mts ρ σ w) {ev ev' : Operand → Value} {t : TypeId} {r : Option Operand} {ao : AOp}
    (hc : compOp0 P mts (.makeMap t r) = some ao) {v : Value} {σ' : AW} (hr : aop ev ao σ = some (v, σ')) :
    Sim P mts ρ σ w (valOf (Instr.makeMap t (r.map ev'))) v σ' := by
  unfold compOp0 at hc
  simp only at hc
  split at hc
  · cases hc
    simp only [aop, Option.some.injEq, Prod.mk.injEq] at hr
    obtain ⟨rfl, rfl⟩ := hr
    have st := step_push h (.map [] 0) (.map #[] 0) ⟨w.heap.size, 0, 0, 1, 0, false⟩ rfl ⟨rfl, rfl, rfl, #[], rfl, rfl, fun i e e' he => by simp at he⟩
    refine Sim.value (v' := .map (some w.heap.size)) ?_ (.map _ _ (Rho.with_same _ _ _)) st
    simp [Instr.makeMap]
  · cases hc

theorem sim_makeSlice (h : WRel P mts ρ σ w) {ev ev' : Operand → Value} {t : TypeId} {l c : Operand} {ao : AOp}
    (hc : compOp0 P mts (.makeSlice t l c) = some ao) (hl : VRel ρ (ev l) (ev' l)) (hcc : VRel ρ (ev c) (ev' c)) {v : Value} {σ' : AW} (hr : aop ev ao σ = some (v, σ')) :
    Sim P mts ρ σ w (valOf (Instr.makeSlice t (ev' l) (ev' c))) v σ' := by
  unfold compOp0 at hc
  simp only at hc
  split at hc
  · rename_i e hu
    split at hc
    · rename_i n m z hn hm hz
      cases hlen : lenIs (vcells z) n with
      | false => rw [hlen] at hc; simp at hc
      | true =>
        rw [hlen] at hc
        simp only [cond_true, Option.some.injEq] at hc
        subst hc
        simp only [aop] at hr
        split at hr
        · rename_i kl i kc j el ec
          split at hr
          · rename_i hb
            cases hr
            rw [el] at hl
            rw [ec] at hcc
            generalize ev' l = u at hl ⊢
            generalize ev' c = u' at hcc ⊢
            cases hl; cases hcc
            obtain ⟨h0, h1, h2⟩ := hb
            have hzs : (vcells z).length = n := lenIs_eq _ _ hlen
            have hzl : LRel ρ (vcells z) z.cells.toList := (const_rel ρ (zeroT_ok hz)).cells
            have hzn : z.cells.size = n := by have := hzl.1; simp at this; omega
            obtain ⟨ie, hie, hbytes⟩ := run_infoT hm w
            have hmax : maxBytes = 1099511627776 := rfl
            rw [hmax] at h2
            have hj0 : 0 ≤ j := by omega
            have hj1 : j ≤ 1099511627776 := by
              have : j * 1 ≤ j * (↑m + 1) := Int.mul_le_mul_of_nonneg_left (by omega) hj0
              omega
            have hjm : (m : Int) * j ≤ 1099511627776 := by
              have : j * (↑m + 1) = ↑m * j + j := by rw [Int.mul_add, Int.mul_comm]; omega
              omega
            have hwi : IntKind.i64.wrap i = i := by
              unfold IntKind.wrap; simp [IntKind.bits, IntKind.signed]; omega
            have hwj : IntKind.i64.wrap j = j := by
              unfold IntKind.wrap; simp [IntKind.bits, IntKind.signed]; omega
            have hcells : LRel ρ ((List.replicate j.toNat (vcells z)).flatten)
                ((Array.range (j.toNat * n)).map (fun i => (if j.toNat * n = 0 then (#[] : Array Value) else z.cells)[i % (if j.toNat * n = 0 then (#[] : Array Value) else z.cells).size]!)).toList := by
              by_cases h0 : j.toNat * n = 0
              · have : (List.replicate j.toNat (vcells z)).flatten = [] := List.eq_nil_of_length_eq_zero (by simp [hzs, h0])
                rw [this, h0]; simpa using LRel.nil ρ
              · simp only [h0, if_false]
                rw [← hzn, repl_cells]
                exact repl_rel hzl _
            have st := step_new' h _ _ e e 0 hcells
            refine Sim.value (v' := .slice (some ⟨w.heap.size, 0, none⟩) i.toNat j.toNat) ?_ (.slice _ _ _ _ _ (with_ad _ _ _ rfl) (by omega) (.inl rfl)) st
            simp only [Instr.makeSlice, Sem.run_bind, run_underlying hu, Result.andThen_ok, asInt, asIntOf, Sem.run_pure, hie, hbytes, hwi, hwj]
            rw [if_neg (by simp; omega)]
            simp only [Sem.run_bind, run_askRoom, Result.andThen_ok, run_sizeT hn]
            by_cases h0 : j.toNat * n = 0
            · rw [if_pos h0]
              simp only [Sem.run_bind, Sem.run_pure, Result.andThen_ok, newRow, run_newObj, h0, if_true]
            · rw [if_neg h0]
              simp only [Sem.run_bind, Sem.run_pure, Result.andThen_ok, newRow, run_newObj, h0, if_false, run_zeroT hz]
          · cases hr
        · cases hr
    · cases hc
  · cases hc

end
end Go.AM
