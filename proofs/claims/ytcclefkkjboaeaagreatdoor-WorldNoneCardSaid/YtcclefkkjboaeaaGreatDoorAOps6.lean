/- Each operation but calls, one by one: fields, indexes, maps. -/
import Derived.Test.YtcclefkkjboaeaaGreatDoorAOps5

namespace Go.AM
open Go

section
variable {P : Program} {mts : List TypeId} {ρ : Rho} {σ : AW} {w : World}

theorem sim_fieldAddr (h : WRel P mts ρ σ w) {ev ev' : Operand → Value} {t : TypeId} {x : Operand} {i : Nat} {ao : AOp}
    (hc : compOp0 P mts (.fieldAddr t x i) = some ao) (hx : VRel ρ (ev x) (ev' x)) {v : Value} {σ' : AW} (hr : aop ev ao σ = some (v, σ')) :
    Sim P mts ρ σ w (valOf (Instr.fieldAt t (ev' x) i)) v σ' := by
  unfold compOp0 at hc
  simp only at hc
  split at hc
  · rename_i f hf
    split at hc
    · rename_i n hs
      cases hc
      simp only [aop] at hr
      split at hr
      · rename_i a ha
        cases hr
        rw [ha] at hx
        generalize ev' x = u at hx ⊢
        obtain ⟨a', rfl, had⟩ := ptr_inv hx
        unfold fieldAtT at hf
        split at hf
        · rename_i fs hu
          refine Sim.value (v' := .pointer (some (a'.add f.offset))) ?_ (.ptr _ _ (ad_add had _)) (.refl h)
          simp [Instr.fieldAt, run_underlying hu, hf, Instr.sureAddr, fieldPlace, run_sizeT hs]
        · cases hf
      · cases hr
    · cases hc
  · cases hc

theorem aPart_run {t : TypeId} {g : Bool} {n : Nat} (hg : aggT P t = some g) (hn : sizeT P t = some n) {cs : List Value} {cs' : Array Value} (hl : LRel ρ cs cs'.toList) {off : Nat} {v : Value}
    (hr : aPart g cs off n = some v) (w : World) : ∃ v', (part t cs' off).run P w = .ok v' w ∧ VRel ρ v v' := by
  unfold aPart at hr
  cases g with
  | true =>
    simp only [cond_true, Option.map_eq_some_iff] at hr
    obtain ⟨l, ht, rfl⟩ := hr
    obtain ⟨h1, h2⟩ := take?_spec _ _ _ ht
    refine ⟨.agg (cs'.extract off (off + n)), by simp [part, run_aggT hg, run_sizeT hn], ?_⟩
    refine LRel.agg ⟨?_, fun i x y hx hy => ?_⟩
    · have h3 := hl.1
      simp only [Array.length_toList] at h3
      simp only [Array.toList_extract, List.extract_eq_take_drop, List.length_take, List.length_drop, Array.length_toList]
      rcases Nat.eq_zero_or_pos n with h0 | h0
      · omega
      · have h4 := h2 (n - 1) (by omega)
        have h5 : (cs.drop off)[n - 1]? ≠ none := by
          rw [← h4, List.getElem?_eq_getElem (by omega)]; simp
        have h6 : n - 1 < (cs.drop off).length := by
          rcases Nat.lt_or_ge (n - 1) (cs.drop off).length with hlt | hge
          · exact hlt
          · exact absurd (List.getElem?_eq_none hge) h5
        simp at h6
        omega
    · have hi : i < n := by have := (List.getElem?_eq_some_iff.1 hx).1; omega
      rw [h2 i hi, List.getElem?_drop] at hx
      refine hl.2 (off + i) x y hx ?_
      have : (cs'.extract off (off + n)).toList[i]? = cs'.toList[off + i]? := by
        simp [List.getElem?_drop, hi]
      rw [← this]; exact hy
  | false =>
    simp only [cond_false] at hr
    obtain ⟨y, hy, hv⟩ := hl.get hr
    refine ⟨y, ?_, hv⟩
    have : cs'[off]? = some y := by simpa using hy
    simp [part, run_aggT hg, this]

theorem sim_field (h : WRel P mts ρ σ w) {ev ev' : Operand → Value} {t : TypeId} {x : Operand} {i : Nat} {ao : AOp}
    (hc : compOp0 P mts (.field t x i) = some ao) (hx : VRel ρ (ev x) (ev' x)) {v : Value} {σ' : AW} (hr : aop ev ao σ = some (v, σ')) :
    Sim P mts ρ σ w (valOf (Instr.field t (ev' x) i)) v σ' := by
  unfold compOp0 at hc
  simp only at hc
  split at hc
  · rename_i f hf
    split at hc
    · rename_i g n hg hn
      cases hc
      simp only [aop] at hr
      split at hr
      · rename_i cs hcs
        simp only [Option.map_eq_some_iff] at hr
        obtain ⟨v1, hp, he⟩ := hr
        cases he
        rw [hcs] at hx
        generalize ev' x = u at hx ⊢
        cases hx with
        | agg a a' hs hh =>
          obtain ⟨v', hrun, hv⟩ := aPart_run hg hn (.of_arrays hs hh) hp w
          unfold fieldAtT at hf
          split at hf
          · rename_i fs hu
            refine Sim.value (v' := v') ?_ hv (.refl h)
            simp [Instr.field, run_underlying hu, hf, asAgg, hrun]
          · cases hf
      · cases hr
    · cases hc
  · cases hc

theorem sim_indexAddr (h : WRel P mts ρ σ w) {ev ev' : Operand → Value} {t : TypeId} {x i : Operand} {ao : AOp}
    (hc : compOp0 P mts (.indexAddr t x i) = some ao) (hx : VRel ρ (ev x) (ev' x)) (hi : VRel ρ (ev i) (ev' i)) {v : Value} {σ' : AW} (hr : aop ev ao σ = some (v, σ')) :
    Sim P mts ρ σ w (valOf (Instr.indexAt t (ev' x) (ev' i))) v σ' := by
  unfold compOp0 at hc
  simp only at hc
  split at hc
  · rename_i n e hu
    simp only [Option.map_eq_some_iff] at hc
    obtain ⟨s, hs, rfl⟩ := hc
    simp only [aop] at hr
    split at hr
    · rename_i a j ha hj
      split at hr
      · rename_i hb
        cases hr
        rw [ha] at hx
        generalize ev i = ui at hi hj
        generalize ev' x = u at hx ⊢
        generalize ev' i = u' at hi ⊢
        obtain ⟨a', rfl, had⟩ := ptr_inv hx
        unfold aIdx at hj
        split at hj
        · rename_i k m
          cases hj
          cases hi
          refine Sim.value (v' := .pointer (some (a'.add (j.toNat * s)))) ?_ (.ptr _ _ (ad_add had _)) (.refl h)
          simp [Instr.indexAt, run_underlying hu, asIntOf, Instr.sureAddr, hb, run_sizeT hs]
        · cases hj
      · cases hr
    · cases hr
  · rename_i e hu
    simp only [Option.map_eq_some_iff] at hc
    obtain ⟨s, hs, rfl⟩ := hc
    simp only [aop] at hr
    split at hr
    · rename_i a n c j ha hj
      split at hr
      · rename_i hb
        cases hr
        rw [ha] at hx
        generalize ev i = ui at hi hj
        generalize ev' x = u at hx ⊢
        generalize ev' i = u' at hi ⊢
        unfold aIdx at hj
        split at hj
        · rename_i k m
          cases hj
          cases hi
          cases hx with
          | slice a a' n c c' had hn hcr =>
            refine Sim.value (v' := .pointer (some (a'.add (j.toNat * s)))) ?_ (.ptr _ _ (ad_add had _)) (.refl h)
            simp [Instr.indexAt, run_underlying hu, asIntOf, hb, run_sizeT hs]
          | slice0 a a' mm hmm => omega
        · cases hj
      · cases hr
    · cases hr
  · cases hc

theorem sim_index (h : WRel P mts ρ σ w) {ev ev' : Operand → Value} {t : TypeId} {x i : Operand} {ao : AOp}
    (hc : compOp0 P mts (.index t x i) = some ao) (hx : VRel ρ (ev x) (ev' x)) (hi : VRel ρ (ev i) (ev' i)) {v : Value} {σ' : AW} (hr : aop ev ao σ = some (v, σ')) :
    Sim P mts ρ σ w (valOf (Instr.index t (ev' x) (ev' i))) v σ' := by
  unfold compOp0 at hc
  simp only at hc
  split at hc
  · rename_i hu
    cases hc
    simp only [aop] at hr
    split at hr
    · rename_i s j hs hj
      split at hr
      · rename_i hb
        simp only [Option.map_eq_some_iff] at hr
        obtain ⟨b, hbb, he⟩ := hr
        cases he
        rw [hs] at hx
        generalize ev i = ui at hi hj
        generalize ev' x = u at hx ⊢
        generalize ev' i = u' at hi ⊢
        unfold aIdx at hj
        split at hj
        · cases hj
          cases hi
          cases hx
          refine Sim.value (v' := .int .u8 b.toNat) ?_ (.int _ _) (.refl h)
          simp only [Instr.index, asIntOf, Sem.run_bind, Sem.run_pure, Result.andThen_ok, run_underlying hu]
          rw [if_pos hb, hbb]
          rfl
        · cases hj
      · cases hr
    · cases hr
  · rename_i n e hu
    split at hc
    · rename_i g s hg hs
      cases hc
      simp only [aop] at hr
      split at hr
      · rename_i cs j hcs hj
        split at hr
        · rename_i hb
          simp only [Option.map_eq_some_iff] at hr
          obtain ⟨v1, hp, he⟩ := hr
          cases he
          rw [hcs] at hx
          generalize ev i = ui at hi hj
          generalize ev' x = u at hx ⊢
          generalize ev' i = u' at hi ⊢
          unfold aIdx at hj
          split at hj
          · cases hj
            cases hi
            cases hx with
            | agg a a' hsz hh =>
              obtain ⟨v', hrun, hv⟩ := aPart_run hg hs (.of_arrays hsz hh) hp w
              refine Sim.value (v' := v') ?_ hv (.refl h)
              simp [Instr.index, asIntOf, run_underlying hu, hb, run_sizeT hs, hrun]
          · cases hj
        · cases hr
      · cases hr
    · cases hc
  · cases hc

theorem sim_extract (h : WRel P mts ρ σ w) {ev ev' : Operand → Value} {x : Operand} {i : Nat} (hx : VRel ρ (ev x) (ev' x)) {v : Value} {σ' : AW}
    (hr : aop ev (.extract x i) σ = some (v, σ')) : Sim P mts ρ σ w (valOf (Instr.extract (ev' x) i)) v σ' := by
  simp only [aop] at hr
  split at hr
  · rename_i vs hvs
    simp only [Option.map_eq_some_iff] at hr
    obtain ⟨x1, hp, he⟩ := hr
    cases he
    rw [hvs] at hx
    generalize ev' x = u at hx ⊢
    cases hx with
    | tuple a a' hsz hh =>
      obtain ⟨y, hy, hv⟩ := (LRel.of_arrays hsz hh).get hp
      refine Sim.value (v' := y) ?_ hv (.refl h)
      have : a'[i]? = some y := by simpa using hy
      simp [Instr.extract, this]
  · cases hr

/-! ### Maps -/

theorem map_obj (h : WRel P mts ρ σ w) {r : Nat} {m : BM} (hm : ρ r = some m) {es : List MapEntry} {clock : Nat} (hg : σ.heap.get r = some (.map es clock)) :
    m.base = 0 ∧ m.reach = 1 ∧ m.ro = false ∧ ∃ es', w.heap[m.c]? = some (.map es' clock) ∧ ERel ρ es es'.toList := h.obj r m _ hm hg

theorem run_getMap {r clock : Nat} {es : Array MapEntry} (h : w.heap[r]? = some (.map es clock)) : (getObj r).run P w = .ok (.map es clock) w := by
  simp [getObj, Sem.run, h]

theorem run_setMap {r clock : Nat} {es : Array MapEntry} (h : w.heap[r]? = some (.map es clock)) (o : Obj) : (setObj r o).run P w = .ok () { w with heap := w.heap.setIfInBounds r o } := by
  simp [setObj, Sem.run, h]

theorem checkKey_prim {t : TypeId} {pk : PK} (hk : pkT P t = some pk) (e : Bool) (n : Nat) (v : Value) (w : World) : (Instr.checkKey e (n + 1) t v).run P w = .ok () w := by
  unfold pkT at hk
  simp only [Option.bind_eq_some_iff] at hk
  obtain ⟨d, hd, hp⟩ := hk
  cases d <;> simp [pkD] at hp <;> simp [Instr.checkKey, run_underlying hd]

theorem sameNow_prim {d : TypeDesc} {pk : PK} (hp : pkD d = some pk) {x y : Value} {b : Bool} (h : primEq pk x y = some b) : Instr.sameNow d x y = some b := by
  cases d <;> simp [pkD] at hp <;> subst hp <;> cases x <;> cases y <;> simp [primEq] at h <;> simp [Instr.sameNow, h]

theorem find_rel {d : TypeDesc} {pk : PK} (hp : pkD d = some pk) {k k' : Value} (hk : VRel ρ k k') : ∀ (es es' : List MapEntry) (i : Nat) (r : Option (Nat × Value)), ERel ρ es es' → aFind pk k es i = some r →
    (r = none ∧ Instr.findNow d k' es' i = some none) ∨ (∃ j v v', r = some (j, v) ∧ Instr.findNow d k' es' i = some (some (j, v')) ∧ VRel ρ v v' ∧ i ≤ j ∧ j < i + es.length ∧
      ∃ e e', es[j - i]? = some e ∧ es'[j - i]? = some e' ∧ k' = k ∧ e'.key = e.key ∧ primEq pk k e.key = some true) := by
  intro es
  induction es with
  | nil =>
    intro es' i r he hf
    have : es' = [] := List.eq_nil_of_length_eq_zero he.1.symm
    subst this
    simp [aFind] at hf; subst hf
    exact .inl ⟨rfl, rfl⟩
  | cons e es ih =>
    intro es' i r he hf
    cases es' with
    | nil => exact absurd he.1 (by simp)
    | cons e' es' =>
      have h0 := he.2 0 e e' rfl rfl
      have ht : ERel ρ es es' := ⟨by have := he.1; simpa using this, fun j a b ha hb => he.2 (j + 1) a b (by simpa using ha) (by simpa using hb)⟩
      simp only [aFind] at hf
      split at hf
      · rename_i hq
        cases hf
        right
        obtain ⟨rfl, hke⟩ := primEq_rel hk h0.1 hq
        refine ⟨i, e.val, e'.val, rfl, ?_, h0.2.1, Nat.le_refl _, by simp, e, e', by simp, by simp, rfl, hke, hq⟩
        simp only [Instr.findNow]
        rw [hke, sameNow_prim hp hq]
      · rename_i hq
        obtain ⟨hkk, hke⟩ := primEq_rel hk h0.1 hq
        have hnow : Instr.findNow d k' (e' :: es') i = Instr.findNow d k' es' (i + 1) := by
          simp only [Instr.findNow]
          rw [hke, hkk, sameNow_prim hp hq]
        rcases ih es' (i + 1) r ht hf with ⟨h1, h2⟩ | ⟨j, v, v', h1, h2, h3, h4, h5, a, a', h6, h7, h8⟩
        · exact .inl ⟨h1, by rw [hnow]; exact h2⟩
        · refine .inr ⟨j, v, v', h1, by rw [hnow]; exact h2, h3, by omega, by simp; omega, a, a', ?_, ?_, h8⟩
          · rw [show j - i = (j - (i + 1)) + 1 by omega]; simpa using h6
          · rw [show j - i = (j - (i + 1)) + 1 by omega]; simpa using h7
      · cases hf

theorem run_findKey {t : TypeId} {pk : PK} (hk : pkT P t = some pk) {k : Value} {es : List MapEntry} {r : Option (Nat × Value)} (h : ∀ d, P.underlying t = some d → Instr.findNow d k es 0 = some r) (w : World) :
    (Instr.findKey t k es).run P w = .ok r w := by
  unfold pkT at hk
  simp only [Option.bind_eq_some_iff] at hk
  obtain ⟨d, hd, hp⟩ := hk
  simp [Instr.findKey, run_underlying hd, h d hd]

theorem sim_lookup (h : WRel P mts ρ σ w) {ev ev' : Operand → Value} {t : TypeId} {m k : Operand} {ok : Bool} {ao : AOp}
    (hc : compOp0 P mts (.lookup t m k ok) = some ao) (hm : VRel ρ (ev m) (ev' m)) (hk : VRel ρ (ev k) (ev' k)) {v : Value} {σ' : AW} (hr : aop ev ao σ = some (v, σ')) :
    Sim P mts ρ σ w (valOf (Instr.lookup t (ev' m) (ev' k) ok)) v σ' := by
  unfold compOp0 at hc
  simp only at hc
  split at hc
  · rename_i kt e hu
    split at hc
    · rename_i pk z hpk hz
      cases hc
      have hzr : VRel ρ z z := const_rel ρ (zeroT_ok hz)
      have hck := checkKey_prim hpk
      have pair : ∀ (x x' : Value) (b : Bool), VRel ρ x x' → VRel ρ (if ok then .tuple #[x, .bool b] else x) (if ok then .tuple #[x', .bool b] else x') := by
        intro x x' b hx
        cases ok
        · simpa using hx
        · simp only [if_true]
          exact LRel.tuple (l := [x, .bool b]) (.cons hx (.cons (.bool b) (.nil _)))
      simp only [aop] at hr
      split at hr
      · rename_i em
        cases hr
        rw [em] at hm
        generalize ev' m = u at hm ⊢
        cases hm
        refine Sim.value (v' := if ok then .tuple #[z, .bool false] else z) ?_ (pair z z false hzr) (.refl h)
        have := hck true 9999 (ev' k) w
        simp [Instr.lookup, run_underlying hu, this, run_findKey hpk (es := []) (r := none) (fun d _ => rfl), run_zeroT hz]
      · rename_i r em
        split at hr
        · rename_i es clock hg
          rw [em] at hm
          generalize ev' m = u at hm ⊢
          generalize ev k = uk at hk hr
          generalize ev' k = uk' at hk ⊢
          cases hm with
          | map r bm hb =>
            obtain ⟨_, _, _, es', ho, her⟩ := map_obj h hb hg
            have hpd : ∀ d, P.underlying kt = some d → pkD d = some pk := by
              intro d hd
              unfold pkT at hpk
              simpa [hd] using hpk
            have hget := run_getMap (P := P) ho
            split at hr
            · rename_i j x hf
              cases hr
              have key : ∃ v', VRel ρ x v' ∧ ∀ d, P.underlying kt = some d → Instr.findNow d uk' es'.toList 0 = some (some (j, v')) := by
                obtain ⟨d, hd⟩ : ∃ d, P.underlying kt = some d := by
                  unfold pkT at hpk
                  simp only [Option.bind_eq_some_iff] at hpk
                  exact ⟨_, hpk.choose_spec.1⟩
                rcases find_rel (hpd d hd) hk es es'.toList 0 _ her hf with ⟨h1, _⟩ | ⟨j', v, v', h1, h2, h3, _⟩
                · cases h1
                · cases h1
                  exact ⟨v', h3, fun d' hd' => by rw [hd] at hd'; cases hd'; exact h2⟩
              obtain ⟨v', hv, hfn⟩ := key
              refine Sim.value (v' := if ok then .tuple #[v', .bool true] else v') ?_ (pair _ _ _ hv) (.refl h)
              simp [Instr.lookup, run_underlying hu, hget, hck, run_findKey hpk hfn]
            · rename_i hf
              cases hr
              have hfn : ∀ d, P.underlying kt = some d → Instr.findNow d uk' es'.toList 0 = some none := by
                intro d hd
                rcases find_rel (hpd d hd) hk es es'.toList 0 _ her hf with ⟨_, h2⟩ | ⟨j', v, v', h1, _⟩
                · exact h2
                · cases h1
              refine Sim.value (v' := if ok then .tuple #[z, .bool false] else z) ?_ (pair z z false hzr) (.refl h)
              simp [Instr.lookup, run_underlying hu, hget, hck, run_findKey hpk hfn, run_zeroT hz]
            · cases hr
        · cases hr
      · cases hr
    · cases hc
  · cases hc

end
end Go.AM
