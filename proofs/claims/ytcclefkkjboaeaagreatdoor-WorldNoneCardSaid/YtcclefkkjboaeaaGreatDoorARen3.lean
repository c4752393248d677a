/- The abstract machine runs alike wherever its blocks stand: operations, code, calls. -/
import Derived.Test.YtcclefkkjboaeaaGreatDoorARen2

namespace Go.AM
open Go

/-! ## Code whose constants hold no address -/

def opdsOf : AOp → List Operand
  | .mov x | .box _ x | .load1 x | .loadN _ x | .nilCheck x | .un _ x | .convInt _ x | .convStr x | .convBytesStr x | .convStrBytes _ x | .makeIface _ x
  | .fieldAddr _ x | .field _ _ _ x | .extract x _ | .lenStr x | .lenSl x | .lenMap x | .clear _ x => [x]
  | .pick a b c => [a, b, c]
  | .alloc _ _ | .makeMap => []
  | .build _ ps | .buildSlice _ _ _ ps => ps.map (·.2.2)
  | .store _ a b | .bin _ _ a b | .makeSlice _ _ _ _ a b | .indexAddrArr _ _ a b | .indexAddrSl _ a b | .indexStr a b | .indexArr _ _ _ a b
  | .lookup _ _ _ a b | .append _ _ _ a b | .copy _ a b | .delete _ a b => [a, b]
  | .makeFunc _ a b => a ++ b
  | .slice _ x a b c => x :: (a.toList ++ (b.toList ++ c.toList))
  | .mapUpdate _ a b c => [a, b, c]
  | .minmax _ x l => x :: l
  | .call f l => f :: l
  | .invoke x _ l => x :: l

def zsOf : AOp → List Value
  | .alloc _ z | .build z _ | .buildSlice _ _ z _ | .makeSlice _ _ _ z _ _ | .clear z _ => z
  | _ => []

def zOf : AOp → Value
  | .lookup _ z _ _ _ => z
  | _ => .bool false

def opC (op : AOp) : Bool := (opdsOf op).all opdOk && ((zsOf op).all scalarOk && constOk (zOf op))

section
variable {r : Nat → Nat}

theorem eraseIdx_map' {α β : Type} (f : α → β) : ∀ (l : List α) (j : Nat), (l.map f).eraseIdx j = (l.eraseIdx j).map f
  | [], _ => rfl
  | _ :: _, 0 => rfl
  | x :: l, j + 1 => by simp [eraseIdx_map' f l j]

theorem aop_ren {op : AOp} (hc : opC op = true) {ev ev' : Operand → Value} (hev : ∀ x ∈ opdsOf op, ev' x = ren r (ev x)) {σ τ σ' : AW} {v : Value} (h : Emb r σ τ) (hs : aop ev op σ = some (v, σ')) :
    ∃ τ', aop ev' op τ = some (ren r v, τ') ∧ Fr r σ τ σ' τ' := by
  simp only [opC, Bool.and_eq_true] at hc
  obtain ⟨ho, hz, hz1⟩ := hc
  have pure_ok : ∀ {v w : Value} {σ' : AW}, some (v, σ) = some (w, σ') → ∃ τ', some (ren r v, τ) = some (ren r w, τ') ∧ Fr r σ τ σ' τ' := by
    intro v w σ' e
    simp only [Option.some.injEq, Prod.mk.injEq] at e
    obtain ⟨rfl, rfl⟩ := e
    exact ⟨τ, rfl, .refl h⟩
  have opt_ok : ∀ {o o' : Option Value} {w : Value} {σ' : AW}, (o.map fun x => (x, σ)) = some (w, σ') → (∀ v, o = some v → o' = some (ren r v)) → ∃ τ', (o'.map fun x => (x, τ)) = some (ren r w, τ') ∧ Fr r σ τ σ' τ' := by
    intro o o' w σ' e hoo
    simp only [Option.map_eq_some_iff, Prod.mk.injEq] at e
    obtain ⟨v, hv, rfl, rfl⟩ := e
    exact ⟨τ, by rw [hoo v hv]; rfl, .refl h⟩
  have push_ok : ∀ {f g : Addr → Value} {o o' : AObj} {w : Value} {σ' : AW}, some (f ⟨σ.next, 0, none⟩, σ.push o) = some (w, σ') → renO r o = o' → (∀ a, ren r (f a) = g (renAd r a)) →
      ∃ τ', some (g ⟨τ.next, 0, none⟩, τ.push o') = some (ren r w, τ') ∧ Fr r σ τ σ' τ' := by
    intro f g o o' w σ' e ho hf
    simp only [Option.some.injEq, Prod.mk.injEq] at e
    obtain ⟨rfl, rfl⟩ := e
    subst ho
    exact ⟨_, by rw [hf, fresh_ren h], h.push o⟩
  cases op with
  | mov x =>
    have hx := hev x (by simp [opdsOf])
    simp only [aop, hx] at hs ⊢
    exact pure_ok hs
  | pick c a b =>
    have h1 := hev c (by simp [opdsOf]); have h2 := hev a (by simp [opdsOf]); have h3 := hev b (by simp [opdsOf])
    simp only [aop, h1, h2, h3] at hs ⊢
    split at hs
    · rename_i t e
      simp only [e, ren]
      cases t
      · exact pure_ok hs
      · exact pure_ok hs
    · cases hs
  | alloc e z =>
    have hz : z.all scalarOk = true := hz
    simp only [aop] at hs ⊢
    exact push_ok (f := fun a => .pointer (some a)) (g := fun a => .pointer (some a)) hs (by simp [renO, scalars_ren r hz]) (fun a => by simp [ren])
  | box e x =>
    have hx := hev x (by simp [opdsOf])
    simp only [aop, hx, vcells_ren] at hs ⊢
    exact push_ok (f := fun a => .pointer (some a)) (g := fun a => .pointer (some a)) hs rfl (fun a => by simp [ren])
  | build z ps =>
    have hz : z.all scalarOk = true := hz
    simp only [aop] at hs ⊢
    simp only [Option.map_eq_some_iff, Prod.mk.injEq] at hs ⊢
    obtain ⟨cs, hf, rfl, rfl⟩ := hs
    have := aFill_ren (r := r) (ev' := ev') (fun p hp => hev p.2.2 (by simp only [opdsOf]; exact List.mem_map_of_mem hp)) hf
    rw [scalars_ren r hz] at this
    exact ⟨τ, ⟨_, this, by simp [ren, renA_mk], rfl⟩, .refl h⟩
  | buildSlice e len z ps =>
    have hz : z.all scalarOk = true := hz
    simp only [aop] at hs ⊢
    simp only [Option.map_eq_some_iff] at hs ⊢
    obtain ⟨cs, hf, hs⟩ := hs
    have := aFill_ren (r := r) (ev' := ev') (fun p hp => hev p.2.2 (by simp only [opdsOf]; exact List.mem_map_of_mem hp)) hf
    rw [scalars_ren r hz] at this
    obtain ⟨τ', e1, hf'⟩ := push_ok (f := fun a => .slice (some a) len len) (g := fun a => .slice (some a) len len) (congrArg some hs) rfl (fun a => by simp [ren])
    exact ⟨τ', ⟨_, this, Option.some.inj e1⟩, hf'⟩
  | load1 a =>
    have hx := hev a (by simp [opdsOf])
    simp only [aop, hx] at hs ⊢
    split at hs
    · rename_i p e
      simp only [e, ren, Option.map_some]
      split at hs
      · rename_i x hl
        rw [h.loadN hl]
        exact pure_ok hs
      · cases hs
    · cases hs
  | loadN n a =>
    have hx := hev a (by simp [opdsOf])
    simp only [aop, hx] at hs ⊢
    split at hs
    · rename_i p e
      simp only [e, ren, Option.map_some]
      simp only [Option.map_eq_some_iff, Prod.mk.injEq] at hs ⊢
      obtain ⟨cs, hl, rfl, rfl⟩ := hs
      exact ⟨τ, ⟨_, h.loadN hl, by simp [ren, renA_mk], rfl⟩, .refl h⟩
    · cases hs
  | store n a x =>
    have h1 := hev a (by simp [opdsOf]); have h2 := hev x (by simp [opdsOf])
    simp only [aop, h1, h2, vcells_ren, lenIs_map] at hs ⊢
    split at hs
    · rename_i p e
      simp only [e, ren, Option.map_some]
      cases hl : lenIs (vcells (ev x)) n
      · rw [hl] at hs; cases hs
      · rw [hl] at hs
        simp only [cond_true, Option.map_eq_some_iff, Prod.mk.injEq] at hs ⊢
        obtain ⟨σ1, hst, rfl, rfl⟩ := hs
        obtain ⟨τ1, ht, hf⟩ := h.storeN hst
        exact ⟨τ1, ⟨τ1, ht, by simp, rfl⟩, hf⟩
    · cases hs
  | nilCheck x =>
    have hx := hev x (by simp [opdsOf])
    simp only [aop, hx] at hs ⊢
    split at hs
    · rename_i a e
      have := pure_ok hs
      simpa only [e, ren, Option.map_some] using this
    · rename_i t y e
      have := pure_ok hs
      simpa only [e, ren, Option.map_some] using this
    · rename_i f a b e
      have := pure_ok hs
      simpa only [e, ren, renFn, Option.map_some] using this
    · cases hs
  | bin op eq x y =>
    have h1 := hev x (by simp [opdsOf]); have h2 := hev y (by simp [opdsOf])
    simp only [aop, h1, h2] at hs ⊢
    exact opt_ok hs fun v hv => by
      have := aBin_ren (r := r) hv
      rw [this.1, this.2]
  | un op x =>
    have h1 := hev x (by simp [opdsOf])
    simp only [aop, h1] at hs ⊢
    exact opt_ok hs fun v hv => by
      have := unary_ren (r := r) hv
      rw [this.1, this.2]
  | convInt k x =>
    have hx := hev x (by simp [opdsOf])
    simp only [aop, hx] at hs ⊢
    split at hs
    · rename_i k' n e
      have := pure_ok hs
      simpa only [e, ren] using this
    · cases hs
  | convStr x =>
    have hx := hev x (by simp [opdsOf])
    simp only [aop, hx] at hs ⊢
    split at hs
    · rename_i s e
      have := pure_ok hs
      simpa only [e, ren] using this
    · cases hs
  | convBytesStr x =>
    have hx := hev x (by simp [opdsOf])
    simp only [aop, hx] at hs ⊢
    split at hs
    · rename_i n c e
      have := pure_ok hs
      simpa only [e, ren, Option.map_none] using this
    · rename_i a n c e
      simp only [e, ren, Option.map_some]
      split at hs
      · rename_i cs hl
        rw [h.loadN hl]
        simp only [Option.map_eq_some_iff, Prod.mk.injEq] at hs ⊢
        obtain ⟨bs, hb, rfl, rfl⟩ := hs
        exact ⟨τ, ⟨bs, aBytes_ren hb, by simp [ren], rfl⟩, .refl h⟩
      · cases hs
    · cases hs
  | convStrBytes e x =>
    have hx := hev x (by simp [opdsOf])
    simp only [aop, hx] at hs ⊢
    split at hs
    · rename_i s e'
      simp only [e', ren]
      exact push_ok (f := fun a => .slice (some a) s.size s.size) (g := fun a => .slice (some a) s.size s.size) hs (by simp only [renO, u8s_ren]) (fun a => by simp [ren])
    · cases hs
  | makeIface t x =>
    have hx := hev x (by simp [opdsOf])
    simp only [aop, hx] at hs ⊢
    have := pure_ok hs
    simpa only [ren] using this
  | makeFunc f a b =>
    simp only [aop] at hs ⊢
    have e1 : a.map ev' = (a.map ev).map (ren r) := by
      rw [List.map_map]; exact List.map_congr_left fun x hx => hev x (by simp [opdsOf, hx])
    have e2 : b.map ev' = (b.map ev).map (ren r) := by
      rw [List.map_map]; exact List.map_congr_left fun x hx => hev x (by simp [opdsOf, hx])
    have := pure_ok hs
    simpa only [ren, renFn, renA_mk, e1, e2] using this
  | makeMap =>
    simp only [aop] at hs ⊢
    exact push_ok (f := fun a => .map (some a.block)) (g := fun a => .map (some a.block)) hs (by simp [renO]) (fun a => by simp [ren, renAd])
  | makeSlice e esz bytes z l c =>
    have hz : z.all scalarOk = true := hz
    have h1 := hev l (by simp [opdsOf]); have h2 := hev c (by simp [opdsOf])
    simp only [aop, h1, h2] at hs ⊢
    split at hs
    · rename_i k l' k' c' e1 e2
      simp only [e1, e2, ren]
      split at hs
      · rename_i hcond
        rw [if_pos hcond]
        exact push_ok (f := fun a => .slice (some a) l'.toNat c'.toNat) (g := fun a => .slice (some a) l'.toNat c'.toNat) hs (by simp only [renO, replicate_ren hz]) (fun a => by simp [ren])
      · cases hs
    · cases hs
  | slice k x lo hi mx =>
    have hx := hev x (by simp [opdsOf])
    have e1 : lo.map ev' = (lo.map ev).map (ren r) := by
      cases lo with
      | none => rfl
      | some y => simp [hev y (by simp [opdsOf])]
    have e2 : hi.map ev' = (hi.map ev).map (ren r) := by
      cases hi with
      | none => rfl
      | some y => simp [hev y (by simp [opdsOf])]
    have e3 : mx.map ev' = (mx.map ev).map (ren r) := by
      cases mx with
      | none => rfl
      | some y => simp [hev y (by simp [opdsOf])]
    cases k with
    | str =>
      simp only [aop, hx, e1, e2, e3] at hs ⊢
      exact opt_ok hs fun v hv => aSliceStr_ren hv
    | sl esz =>
      simp only [aop, hx, e1, e2, e3] at hs ⊢
      exact opt_ok hs fun v hv => aSliceSl_ren h hv
    | arr n esz =>
      simp only [aop, hx, e1, e2, e3] at hs ⊢
      exact opt_ok hs fun v hv => aSliceArr_ren hv
  | fieldAddr off x =>
    have hx := hev x (by simp [opdsOf])
    simp only [aop, hx] at hs ⊢
    split at hs
    · rename_i a e
      have := pure_ok hs
      simpa only [e, ren, Option.map_some, renAd_add] using this
    · cases hs
  | field agg off n x =>
    have hx := hev x (by simp [opdsOf])
    simp only [aop, hx] at hs ⊢
    split at hs
    · rename_i cs e
      simp only [e, ren, renA_toList]
      exact opt_ok hs fun v hv => aPart_ren hv
    · cases hs
  | indexAddrArr len esz x i =>
    have h1 := hev x (by simp [opdsOf]); have h2 := hev i (by simp [opdsOf])
    simp only [aop, h1, h2] at hs ⊢
    split at hs
    · rename_i a i' e1 e2
      simp only [e1, aIdx_ren e2, ren, Option.map_some]
      split at hs
      · rename_i hcond
        rw [if_pos hcond]
        have := pure_ok hs
        simpa only [ren, Option.map_some, renAd_add] using this
      · cases hs
    · cases hs
  | indexAddrSl esz x i =>
    have h1 := hev x (by simp [opdsOf]); have h2 := hev i (by simp [opdsOf])
    simp only [aop, h1, h2] at hs ⊢
    split at hs
    · rename_i a len c i' e1 e2
      simp only [e1, aIdx_ren e2, ren, Option.map_some]
      split at hs
      · rename_i hcond
        rw [if_pos hcond]
        have := pure_ok hs
        simpa only [ren, Option.map_some, renAd_add] using this
      · cases hs
    · cases hs
  | indexStr x i =>
    have h1 := hev x (by simp [opdsOf]); have h2 := hev i (by simp [opdsOf])
    simp only [aop, h1, h2] at hs ⊢
    split at hs
    · rename_i s i' e1 e2
      simp only [e1, aIdx_ren e2, ren]
      split at hs
      · rename_i hcond
        rw [if_pos hcond]
        simp only [Option.map_eq_some_iff, Prod.mk.injEq] at hs ⊢
        obtain ⟨b, hb, rfl, rfl⟩ := hs
        exact ⟨τ, ⟨b, hb, by simp [ren], rfl⟩, .refl h⟩
      · cases hs
    · cases hs
  | indexArr agg len esz x i =>
    have h1 := hev x (by simp [opdsOf]); have h2 := hev i (by simp [opdsOf])
    simp only [aop, h1, h2] at hs ⊢
    split at hs
    · rename_i cs i' e1 e2
      simp only [e1, aIdx_ren e2, ren, renA_toList]
      split at hs
      · rename_i hcond
        rw [if_pos hcond]
        exact opt_ok hs fun v hv => aPart_ren hv
      · cases hs
    · cases hs
  | lookup pk z ok m k =>
    have hz1 : constOk z = true := hz1
    have h1 := hev m (by simp [opdsOf]); have h2 := hev k (by simp [opdsOf])
    have hzz : ren r z = z := const_ren r hz1
    simp only [aop, h1, h2] at hs ⊢
    split at hs
    · rename_i e
      simp only [e, ren, Option.map_none]
      have := pure_ok hs
      cases ok
      · simpa [hzz] using this
      · simpa [ren, renA, renL, hzz] using this
    · rename_i b e
      simp only [e, ren, Option.map_some]
      split at hs
      · rename_i es ck hg
        have hg' := h.get _ _ hg
        simp only [renO] at hg'
        rw [hg']
        simp only
        split at hs
        · rename_i j x hf
          rw [aFind_ren hf]
          have := pure_ok hs
          cases ok
          · simpa using this
          · simpa [ren, renA, renL] using this
        · rename_i hf
          rw [aFind_ren hf]
          have := pure_ok hs
          cases ok
          · simpa [hzz] using this
          · simpa [ren, renA, renL, hzz] using this
        · cases hs
      · cases hs
    · cases hs
  | mapUpdate pk m k x =>
    have h1 := hev m (by simp [opdsOf]); have h2 := hev k (by simp [opdsOf]); have h3 := hev x (by simp [opdsOf])
    simp only [aop, h1, h2, h3] at hs ⊢
    split at hs
    · rename_i b e
      simp only [e, ren, Option.map_some]
      split at hs
      · rename_i es ck hg
        have hg' := h.get _ _ hg
        simp only [renO] at hg'
        rw [hg']
        simp only
        split at hs
        · rename_i j y hf
          rw [aFind_ren hf]
          simp only [Option.some.injEq, Prod.mk.injEq] at hs
          obtain ⟨rfl, rfl⟩ := hs
          have := h.upd hg (.map (es.modify j fun e => { e with key := ev k, val := ev x }) ck)
          refine ⟨_, ?_, this⟩
          simp only [Option.map_some, renO, ren_undef, Option.some.injEq, Prod.mk.injEq, true_and]
          congr 2
          apply List.ext_getElem?
          intro i
          simp only [List.getElem?_map, List.getElem?_modify, Option.map_eq_map, Option.map_map]
          congr 1
          funext e
          simp only [Function.comp]
          split <;> simp [renE]
        · rename_i hf
          rw [aFind_ren hf]
          simp only [Option.some.injEq, Prod.mk.injEq] at hs
          obtain ⟨rfl, rfl⟩ := hs
          have := h.upd hg (.map (es ++ [{ key := ev k, val := ev x, born := ck }]) (ck + 1))
          refine ⟨_, ?_, this⟩
          simp [renO, renE]
        · cases hs
      · cases hs
    · cases hs
  | extract x i =>
    have hx := hev x (by simp [opdsOf])
    simp only [aop, hx] at hs ⊢
    split at hs
    · rename_i vs e
      simp only [e, ren, renA_toList]
      simp only [Option.map_eq_some_iff, Prod.mk.injEq, List.getElem?_map] at hs ⊢
      obtain ⟨x, hx, rfl, rfl⟩ := hs
      exact ⟨τ, ⟨_, ⟨x, hx, rfl⟩, rfl, rfl⟩, .refl h⟩
    · cases hs
  | lenStr x =>
    have hx := hev x (by simp [opdsOf])
    simp only [aop, hx] at hs ⊢
    split at hs
    · rename_i s e
      have := pure_ok hs
      simpa only [e, ren, goInt_ren] using this
    · cases hs
  | lenSl x =>
    have hx := hev x (by simp [opdsOf])
    simp only [aop, hx] at hs ⊢
    split at hs
    · rename_i a n c e
      have := pure_ok hs
      simpa only [e, ren, goInt_ren] using this
    · cases hs
  | lenMap x =>
    have hx := hev x (by simp [opdsOf])
    simp only [aop, hx] at hs ⊢
    split at hs
    · rename_i e
      have := pure_ok hs
      simpa only [e, ren, goInt_ren, Option.map_none] using this
    · rename_i b e
      simp only [e, ren, Option.map_some]
      split at hs
      · rename_i es ck hg
        have hg' := h.get _ _ hg
        simp only [renO] at hg'
        rw [hg']
        have := pure_ok hs
        simpa only [goInt_ren, List.length_map] using this
      · cases hs
    · cases hs
  | append e esz bytes s x =>
    have h1 := hev s (by simp [opdsOf]); have h2 := hev x (by simp [opdsOf])
    simp only [aop, h1, h2] at hs ⊢
    exact aAppend_ren h hs
  | copy esz d s =>
    have h1 := hev d (by simp [opdsOf]); have h2 := hev s (by simp [opdsOf])
    simp only [aop, h1, h2] at hs ⊢
    exact aCopy_ren h hs
  | clear z s =>
    have hz : z.all scalarOk = true := hz
    have hx := hev s (by simp [opdsOf])
    simp only [aop, hx] at hs ⊢
    split at hs
    · rename_i n c e
      have := pure_ok hs
      simpa only [e, ren, Option.map_none, renA, renL] using this
    · rename_i a n c e
      simp only [e, ren, Option.map_some]
      cases h0 : Nat.beq n 0
      · rw [h0] at hs
        simp only [cond_false, Option.map_eq_some_iff, Prod.mk.injEq] at hs ⊢
        obtain ⟨σ1, hst, rfl, rfl⟩ := hs
        obtain ⟨τ1, ht, hf⟩ := h.storeN hst
        rw [replicate_ren hz] at ht
        exact ⟨τ1, ⟨τ1, ht, by simp [ren, renA, renL], rfl⟩, hf⟩
      · rw [h0] at hs
        have := pure_ok hs
        simpa only [ren, renA, renL, cond_true] using this
    · cases hs
  | delete pk m k =>
    have h1 := hev m (by simp [opdsOf]); have h2 := hev k (by simp [opdsOf])
    simp only [aop, h1, h2] at hs ⊢
    split at hs
    · rename_i e
      have := pure_ok hs
      simpa only [e, ren, Option.map_none, renA, renL] using this
    · rename_i b e
      simp only [e, ren, Option.map_some]
      split at hs
      · rename_i es ck hg
        have hg' := h.get _ _ hg
        simp only [renO] at hg'
        rw [hg']
        simp only
        split at hs
        · rename_i j y hf
          rw [aFind_ren hf]
          simp only [Option.some.injEq, Prod.mk.injEq] at hs
          obtain ⟨rfl, rfl⟩ := hs
          have := h.upd hg (.map (es.eraseIdx j) ck)
          refine ⟨_, ?_, this⟩
          simp [renO, ren, renA, renL, eraseIdx_map']
        · rename_i hf
          rw [aFind_ren hf]
          have := pure_ok hs
          simpa only [ren, renA, renL, Option.map_none] using this
        · cases hs
      · cases hs
    · cases hs
  | minmax b x l =>
    have hx := hev x (by simp [opdsOf])
    have e1 : l.map ev' = (l.map ev).map (ren r) := by
      rw [List.map_map]; exact List.map_congr_left fun x hx => hev x (by simp [opdsOf, hx])
    simp only [aop, hx, e1] at hs ⊢
    exact opt_ok hs fun v hv => aMinMax_ren hv
  | call f l => simp [aop] at hs
  | invoke x cs l => simp [aop] at hs

end
end Go.AM
