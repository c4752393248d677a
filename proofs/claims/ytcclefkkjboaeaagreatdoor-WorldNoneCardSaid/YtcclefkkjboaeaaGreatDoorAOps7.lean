/- Each operation but calls, one by one: maps that are written, built-in functions. -/
import Derived.Test.YtcclefkkjboaeaaGreatDoorAOps6

namespace Go.AM
open Go

section
variable {P : Program} {mts : List TypeId} {ρ : Rho} {σ : AW} {w : World}

/-- An object that is no row of cells, turned, on either side. -/
theorem step_setObj (h : WRel P mts ρ σ w) {r : Nat} {m : BM} (hr : ρ r = some m) {ao : AObj} (hao : σ.heap.get r = some ao) (hne : ao ≠ .dead) (hb : m.base = 0) (hre : m.reach = 1) (hro : m.ro = false)
    {o : Obj} (ho : w.heap[m.c]? = some o) (hnc : ∀ a b c, o ≠ .cells a b c) (ao' : AObj) (o' : Obj) (hrel : ObjRel P mts ρ m (some o') ao') :
    Step P mts ρ σ w ρ (σ.upd r ao') { w with heap := w.heap.setIfInBounds m.c o' } := by
  have hd := (h.dom r m hr).2
  refine step_upd h hr hro hao hne ao' o' ?_ (by simp) rfl rfl rfl hrel ?_
  · intro c
    by_cases hc : c = m.c
    · subst hc; simp [hd]
    · rw [Array.getElem?_setIfInBounds_ne (fun e => hc e.symm)]; simp [hc]
  · intro b n an hbr hn hcc hg
    have hob := h.obj b n an hn hg
    rw [hcc, ho] at hob
    have hdis := h.disj b r n m hn hr hbr hcc
    have hndead : ∀ x, an = x → x ≠ .dead → ¬ Dead σ b := by
      intro x e hx hdd
      unfold Dead at hdd
      rw [hg] at hdd
      cases hdd
      exact hx e.symm
    have hndr : ¬ Dead σ r := by
      intro hdd; unfold Dead at hdd; rw [hao] at hdd; cases hdd; exact hne rfl
    cases an with
    | cells cs el z ro =>
      obtain ⟨_, _, arr, el', lo, hi, e, _⟩ := hob
      cases e
      exact absurd rfl (hnc _ _ _)
    | map es ck =>
      obtain ⟨h1, h2, h3, _⟩ := hob
      rcases hdis with x | x | x | x
      · rw [hro] at x; cases x.2
      · exact absurd x (hndead _ rfl (by simp))
      · exact absurd x hndr
      · rcases x.2.2 with x | x <;> omega
    | loop L =>
      obtain ⟨h1, h2, h3, _⟩ := hob
      rcases hdis with x | x | x | x
      · rw [hro] at x; cases x.2
      · exact absurd x (hndead _ rfl (by simp))
      · exact absurd x hndr
      · rcases x.2.2 with x | x <;> omega
    | dead => exact hob

theorem ba_eq {a b : ByteArray} (h : (a == b) = true) : a = b := by
  rw [beq_toListBytes, ByteArray.toList_eq, ByteArray.toList_eq] at h
  have := eq_of_beq h
  cases a; cases b
  simp only [ByteArray.mk.injEq]
  exact Array.toList_inj.1 this

theorem ba_refl (a : ByteArray) : (a == a) = true := by rw [beq_toListBytes]; simp

theorem sameBits_prim {pk : PK} {x y : Value} (h : primEq pk x y = some true) (n : Nat) : Instr.sameBits n y x = true := by
  cases pk <;> cases x <;> cases y <;> simp [primEq] at h <;> first | (simp [Instr.sameBits, h]; done) | (have := ba_eq h; subst this; simp [Instr.sameBits, ba_refl])

theorem ERel.modify {es es' : List MapEntry} (h : ERel ρ es es') (i : Nat) {k k' v v' : Value} (hk : VRel ρ k k') (hv : VRel ρ v v') :
    ERel ρ (es.modify i fun e => { e with key := k, val := v }) (es'.modify i fun e => { e with key := k', val := v' }) := by
  refine ⟨by simp [h.1], fun j e e' he he' => ?_⟩
  rw [List.getElem?_modify] at he he'
  by_cases hij : i = j
  · subst hij
    simp only [if_true] at he he'
    cases ha : es[i]? with
    | none => simp [ha] at he
    | some a =>
      cases hb : es'[i]? with
      | none => simp [hb] at he'
      | some b =>
        simp [ha] at he; simp [hb] at he'
        subst he he'
        exact ⟨hk, hv, (h.2 i a b ha hb).2.2⟩
  · simp [hij] at he he'
    exact h.2 j e e' he he'

theorem ERel.push {es es' : List MapEntry} (h : ERel ρ es es') {k k' v v' : Value} (hk : VRel ρ k k') (hv : VRel ρ v v') (c : Nat) :
    ERel ρ (es ++ [{ key := k, val := v, born := c }]) (es' ++ [{ key := k', val := v', born := c }]) := by
  refine ⟨by simp [h.1], fun j e e' he he' => ?_⟩
  by_cases hj : j < es.length
  · rw [List.getElem?_append_left hj] at he
    rw [List.getElem?_append_left (by rw [← h.1]; exact hj)] at he'
    exact h.2 j e e' he he'
  · rw [List.getElem?_append_right (by omega)] at he
    rw [List.getElem?_append_right (by rw [← h.1]; omega), ← h.1] at he'
    have : j - es.length = 0 := by have := (List.getElem?_eq_some_iff.1 he).1; simp at this; omega
    rw [this] at he he'
    simp at he he'
    subst he he'
    exact ⟨hk, hv, rfl⟩

theorem ERel.erase {es es' : List MapEntry} (h : ERel ρ es es') (i : Nat) : ERel ρ (es.eraseIdx i) (es'.eraseIdx i) := by
  refine ⟨by simp [List.length_eraseIdx, h.1], fun j e e' he he' => ?_⟩
  rw [List.getElem?_eraseIdx] at he he'
  by_cases hj : j < i
  · simp only [hj, if_true] at he he'; exact h.2 j e e' he he'
  · simp only [hj, if_false] at he he'; exact h.2 (j + 1) e e' he he'

theorem under_pk {t : TypeId} {pk : PK} (hk : pkT P t = some pk) : ∃ d, P.underlying t = some d ∧ pkD d = some pk := by
  unfold pkT at hk
  simpa only [Option.bind_eq_some_iff] using hk

theorem sim_mapUpdate (h : WRel P mts ρ σ w) {ev ev' : Operand → Value} {t : TypeId} {m k x : Operand} {ao : AOp}
    (hc : compOp0 P mts (.mapUpdate t m k x) = some ao) (hm : VRel ρ (ev m) (ev' m)) (hk : VRel ρ (ev k) (ev' k)) (hx : VRel ρ (ev x) (ev' x)) {v : Value} {σ' : AW} (hr : aop ev ao σ = some (v, σ')) :
    Sim P mts ρ σ w (do Instr.mapUpdate t (ev' m) (ev' k) (ev' x); pure .skip) v σ' := by
  unfold compOp0 at hc
  simp only at hc
  split at hc
  · rename_i kt e hu
    simp only [Option.map_eq_some_iff] at hc
    obtain ⟨pk, hpk, rfl⟩ := hc
    have hck := checkKey_prim hpk
    simp only [aop] at hr
    split at hr
    · rename_i r em
      split at hr
      · rename_i es clock hg
        rw [em] at hm
        generalize ev' m = u at hm ⊢
        generalize ev k = uk at hk hr
        generalize ev' k = uk' at hk ⊢
        generalize ev x = ux at hx hr
        generalize ev' x = ux' at hx ⊢
        cases hm with
        | map r bm hb =>
          obtain ⟨o1, o2, o3, es', ho, her⟩ := map_obj h hb hg
          obtain ⟨d, hd, hpd⟩ := under_pk hpk
          have hget := run_getMap (P := P) ho
          have hset := run_setMap (P := P) ho
          split at hr
          · rename_i i y hf
            cases hr
            rcases find_rel hpd hk es es'.toList 0 _ her hf with ⟨h1, _⟩ | ⟨j', v, v', h1, h2, h3, _, _, e1, e1', h6, h7, h8, h9, h10⟩
            · cases h1
            · cases h1
              have hfn : ∀ d', P.underlying kt = some d' → Instr.findNow d' uk' es'.toList 0 = some (some (i, v')) := fun d' hd' => by rw [hd] at hd'; cases hd'; exact h2
              have hrel : ObjRel P mts ρ bm (some (.map (es'.modify i fun e => { e with key := uk', val := ux' }) clock)) (.map (es.modify i fun e => { e with key := uk, val := ux }) clock) := by
                refine ⟨o1, o2, o3, _, rfl, ?_⟩
                have := her.modify i hk hx
                simpa [Array.toList_modify] using this
              refine Sim.unit ?_ (step_setObj h hb hg (by simp) o1 o2 o3 ho (by simp) _ _ hrel)
              have hes : es'[i]? = some e1' := by simpa using h7
              have hsb : Instr.sameBits 10000 e1'.key uk' = true := by rw [h9, h8]; exact sameBits_prim h10 _
              simp only [Instr.mapUpdate, Sem.run_bind, run_underlying hu, Result.andThen_ok, hget, hck, run_findKey hpk hfn, hes, Option.map_some, Option.getD_some, Instr.keyThatStays, hsb, if_true, Sem.run_pure, hset]
          · rename_i hf
            cases hr
            have hfn : ∀ d', P.underlying kt = some d' → Instr.findNow d' uk' es'.toList 0 = some none := by
              intro d' hd'
              rw [hd] at hd'; cases hd'
              rcases find_rel hpd hk es es'.toList 0 _ her hf with ⟨_, h2⟩ | ⟨j', v, v', h1, _⟩
              · exact h2
              · cases h1
            have hrel : ObjRel P mts ρ bm (some (.map (es'.push { key := uk', val := ux', born := clock }) (clock + 1))) (.map (es ++ [{ key := uk, val := ux, born := clock }]) (clock + 1)) := by
              refine ⟨o1, o2, o3, _, rfl, ?_⟩
              have := her.push hk hx clock
              simpa using this
            refine Sim.unit ?_ (step_setObj h hb hg (by simp) o1 o2 o3 ho (by simp) _ _ hrel)
            simp only [Instr.mapUpdate, Sem.run_bind, run_underlying hu, Result.andThen_ok, hget, hck, run_findKey hpk hfn, hset]
          · cases hr
      · cases hr
    · cases hr
  · cases hc

theorem lens (h : WRel P mts ρ σ w) {ev ev' : Operand → Value} {tys : Array TypeId} {t0 : TypeId} {x : Operand} {ao : AOp}
    (hc : compBuiltin P .len tys [x] = some ao) (hx : VRel ρ (ev x) (ev' x)) {v : Value} {σ' : AW} (hr : aop ev ao σ = some (v, σ')) :
    Sim P mts ρ σ w (valOf (Builtin.len_ tys t0 #[ev' x])) v σ' := by
  unfold compBuiltin at hc
  simp only at hc
  split at hc
  · rename_i hu
    cases hc
    simp only [Option.bind_eq_some_iff] at hu
    obtain ⟨t, ht, hu⟩ := hu
    simp only [aop] at hr
    split at hr
    · rename_i s es
      cases hr
      rw [es] at hx
      generalize ev' x = u at hx ⊢
      cases hx
      refine Sim.value (v' := goInt s.size) ?_ (.int _ _) (.refl h)
      simp [Builtin.len_, ht, run_underlying hu]
    · cases hr
  · rename_i e hu
    cases hc
    simp only [Option.bind_eq_some_iff] at hu
    obtain ⟨t, ht, hu⟩ := hu
    simp only [aop] at hr
    split at hr
    · rename_i a n c es
      cases hr
      rw [es] at hx
      generalize ev' x = u at hx ⊢
      cases hx with
      | sliceNil => exact Sim.value (v' := goInt 0) (by simp [Builtin.len_, ht, run_underlying hu]) (.int _ _) (.refl h)
      | slice => exact Sim.value (v' := goInt n) (by simp [Builtin.len_, ht, run_underlying hu]) (.int _ _) (.refl h)
      | slice0 => exact Sim.value (v' := goInt 0) (by simp [Builtin.len_, ht, run_underlying hu]) (.int _ _) (.refl h)
    · cases hr
  · rename_i k e hu
    cases hc
    simp only [Option.bind_eq_some_iff] at hu
    obtain ⟨t, ht, hu⟩ := hu
    simp only [aop] at hr
    split at hr
    · rename_i es
      cases hr
      rw [es] at hx
      generalize ev' x = u at hx ⊢
      cases hx
      exact Sim.value (v' := goInt 0) (by simp [Builtin.len_, ht, run_underlying hu]) (.int _ _) (.refl h)
    · rename_i r em
      split at hr
      · rename_i es clock hg
        cases hr
        rw [em] at hx
        generalize ev' x = u at hx ⊢
        cases hx with
        | map r bm hb =>
          obtain ⟨o1, o2, o3, es', ho, her⟩ := map_obj h hb hg
          have hget := run_getMap (P := P) ho
          have hlen : es'.size = es.length := by rw [her.1]; simp
          refine Sim.value (v' := goInt es.length) ?_ (.int _ _) (.refl h)
          simp [Builtin.len_, ht, run_underlying hu, hget, hlen]
      · cases hr
    · cases hr
  · cases hc

theorem minmax_run (isMax : Bool) : ∀ (l l' : List Value) (x x' v : Value) (w : World), VRel ρ x x' → LRel ρ l l' → aMinMax isMax x l = some v → VRel ρ v v →
    (l'.foldlM (if isMax then Builtin.max2 else Builtin.min2) x').run P w = .ok v w ∨ l = [] := by
  intro l
  induction l with
  | nil => intro l' x x' v w _ _ _ _; exact .inr rfl
  | cons y l ih =>
    intro l' x x' v w hx hl hm hv
    left
    obtain ⟨y', ys', rfl, hy, hys⟩ := hl.uncons
    unfold aMinMax at hm
    split at hm
    · rename_i e; cases e
    · rename_i k a k' b rest e
      cases e
      split at hm
      · rename_i hk
        subst hk
        cases hx; cases hy
        have hstep : ((if isMax then Builtin.max2 else Builtin.min2) (.int k a) (.int k b)).run P w = .ok (.int k (if isMax then (if b > a then b else a) else (if b < a then b else a))) w := by
          cases isMax <;> simp [Builtin.max2, Builtin.min2]
        rw [List.foldlM_cons, Sem.run_bind, hstep, Result.andThen_ok]
        rcases ih ys' _ _ v w (.int _ _) hys hm hv with h1 | h1
        · exact h1
        · subst h1
          have : ys' = [] := List.eq_nil_of_length_eq_zero hys.1.symm
          subst this
          simp [aMinMax] at hm
          simp [hm]
      · cases hm
    · cases hm

theorem minmax_int (isMax : Bool) : ∀ (l : List Value) (x v : Value), aMinMax isMax x l = some v → l ≠ [] → ∃ k n, v = .int k n := by
  intro l
  induction l with
  | nil => intro x v _ h; exact absurd rfl h
  | cons y l ih =>
    intro x v hm _
    unfold aMinMax at hm
    split at hm
    · rename_i e; cases e
    · rename_i k a k' b rest e
      cases e
      split at hm
      · cases l with
        | nil => simp [aMinMax] at hm; exact ⟨_, _, hm.symm⟩
        | cons z l => exact ih _ v hm (by simp)
      · cases hm
    · cases hm

theorem minmaxs (h : WRel P mts ρ σ w) {ev ev' : Operand → Value} {isMax : Bool} {x : Operand} {rest : List Operand} (hx : VRel ρ (ev x) (ev' x)) (hrest : ∀ y ∈ rest, VRel ρ (ev y) (ev' y))
    {tys : Array TypeId} {t0 : TypeId} {args : Array Value} (ha : args.toList = ev' x :: rest.map ev') {v : Value} {σ' : AW} (hr : aop ev (.minmax isMax x rest) σ = some (v, σ')) :
    Sim P mts ρ σ w (valOf (if isMax then Builtin.max_ tys t0 args else Builtin.min_ tys t0 args)) v σ' := by
  simp only [aop, Option.map_eq_some_iff] at hr
  obtain ⟨v1, hm, he⟩ := hr
  cases he
  have hl := map_rel rest hrest
  have hrun : ∃ v', ((rest.map ev').foldlM (if isMax then Builtin.max2 else Builtin.min2) (ev' x)).run P w = .ok v' w ∧ VRel ρ v v' := by
    cases rest with
    | nil =>
      simp [aMinMax] at hm
      subst hm
      exact ⟨ev' x, by simp, hx⟩
    | cons y rest =>
      obtain ⟨k, n, rfl⟩ := minmax_int isMax _ _ _ hm (by simp)
      rcases minmax_run isMax _ _ _ _ _ w hx hl hm (.int k n) with h1 | h1
      · exact ⟨_, h1, .int k n⟩
      · simp at h1
  obtain ⟨v', hrun, hv⟩ := hrun
  refine Sim.value (v' := v') ?_ hv (.refl h)
  cases isMax
  · simp only [Bool.false_eq_true, if_false] at hrun ⊢
    simp only [Builtin.min_, ha]
    exact hrun
  · simp only [if_true] at hrun ⊢
    simp only [Builtin.max_, ha]
    exact hrun

theorem deletes (h : WRel P mts ρ σ w) {ev ev' : Operand → Value} {tys : Array TypeId} {t0 : TypeId} {m k : Operand} {ao : AOp}
    (hc : compBuiltin P .delete tys [m, k] = some ao) (hm : VRel ρ (ev m) (ev' m)) (hk : VRel ρ (ev k) (ev' k)) {v : Value} {σ' : AW} (hr : aop ev ao σ = some (v, σ')) :
    Sim P mts ρ σ w (valOf (Builtin.delete_ tys t0 #[ev' m, ev' k])) v σ' := by
  unfold compBuiltin at hc
  simp only at hc
  split at hc
  · rename_i kt e hu
    simp only [Option.map_eq_some_iff] at hc
    obtain ⟨pk, hpk, rfl⟩ := hc
    simp only [Option.bind_eq_some_iff] at hu
    obtain ⟨t, ht, hu⟩ := hu
    have hck := checkKey_prim hpk
    have hv0 : VRel ρ (.tuple #[]) (.tuple #[]) := undef_rel ρ
    simp only [aop] at hr
    split at hr
    · rename_i em
      cases hr
      rw [em] at hm
      generalize ev' m = u at hm ⊢
      cases hm
      refine Sim.value (v' := .tuple #[]) ?_ hv0 (.refl h)
      simp [Builtin.delete_, ht, run_underlying hu, hck]
    · rename_i r em
      split at hr
      · rename_i es clock hg
        rw [em] at hm
        generalize ev' m = u at hm ⊢
        generalize ev k = uk at hk hr
        generalize ev' k = uk' at hk ⊢
        cases hm with
        | map r bm hb =>
          obtain ⟨o1, o2, o3, es', ho, her⟩ := map_obj h hb hg
          obtain ⟨d, hd, hpd⟩ := under_pk hpk
          have hget := run_getMap (P := P) ho
          have hset := run_setMap (P := P) ho
          split at hr
          · rename_i i y hf
            cases hr
            rcases find_rel hpd hk es es'.toList 0 _ her hf with ⟨h1, _⟩ | ⟨j', v, v', h1, h2, h3, _, hlt, _⟩
            · cases h1
            · cases h1
              have hfn : ∀ d', P.underlying kt = some d' → Instr.findNow d' uk' es'.toList 0 = some (some (i, v')) := fun d' hd' => by rw [hd] at hd'; cases hd'; exact h2
              have hrel : ObjRel P mts ρ bm (some (.map (es'.eraseIdxIfInBounds i) clock)) (.map (es.eraseIdx i) clock) := by
                refine ⟨o1, o2, o3, _, rfl, ?_⟩
                have := her.erase i
                have hsz : es'.size = es.length := by rw [her.1]; simp
                have e2 : (es'.eraseIdxIfInBounds i).toList = es'.toList.eraseIdx i := by
                  rw [Array.eraseIdxIfInBounds_eq]
                  split
                  · rw [Array.toList_eraseIdx]
                  · omega
                rw [e2]; exact this
              refine Sim.value (v' := .tuple #[]) ?_ hv0 (step_setObj h hb hg (by simp) o1 o2 o3 ho (by simp) _ _ hrel)
              simp [Builtin.delete_, ht, run_underlying hu, hget, hck, run_findKey hpk hfn, hset]
          · rename_i hf
            cases hr
            have hfn : ∀ d', P.underlying kt = some d' → Instr.findNow d' uk' es'.toList 0 = some none := by
              intro d' hd'
              rw [hd] at hd'; cases hd'
              rcases find_rel hpd hk es es'.toList 0 _ her hf with ⟨_, h2⟩ | ⟨j', v, v', h1, _⟩
              · exact h2
              · cases h1
            refine Sim.value (v' := .tuple #[]) ?_ hv0 ((step_setObj h hb hg (by simp) o1 o2 o3 ho (by simp) (.map es clock) (.map es' clock) ⟨o1, o2, o3, es', rfl, her⟩).same ⟨rfl, fun b => ?_⟩)
            · simp [Builtin.delete_, ht, run_underlying hu, hget, hck, run_findKey hpk hfn, hset]
            · rw [upd_get]; split
              · rename_i hbb; subst hbb; exact hg.symm
              · rfl
          · cases hr
      · cases hr
    · cases hr
  · cases hc

end
end Go.AM
