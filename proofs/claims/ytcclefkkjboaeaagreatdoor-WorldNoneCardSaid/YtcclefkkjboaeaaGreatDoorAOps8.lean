/- append, copy, clear. -/
import Derived.Test.YtcclefkkjboaeaaGreatDoorAOps7

namespace Go.AM
open Go

section
variable {P : Program} {mts : List TypeId} {ρ : Rho} {σ : AW} {w : World}

theorem len_run {x x' : Value} (hx : VRel ρ x x') {n : Nat} (hn : aSrcLen x = some n) (w' : World) : (Builtin.lenOf x').run P w' = .ok n w' := by
  cases hx <;> try (simp [aSrcLen] at hn; done)
  all_goals (simp [aSrcLen] at hn; subst hn; simp [Builtin.lenOf])

theorem extract_all (s : ByteArray) : (s.extract 0 s.size).data = s.data := by simp

/-- What is read of a source. -/
theorem first_run (h : WRel P mts ρ σ w) {x x' : Value} (hx : VRel ρ x x') {esz n : Nat} (hn : aSrcLen x = some n) {new : List Value} (hs : aSrc σ esz x = some new) :
    ∃ new' : Array Value, (Builtin.firstCells esz n x').run P w = .ok new' w ∧ LRel ρ new new'.toList := by
  cases hx <;> try (simp [aSrcLen] at hn; done)
  · rename_i s
    simp [aSrcLen] at hn; simp [aSrc] at hs
    subst hn hs
    refine ⟨s.data.map fun b => .int .u8 b.toNat, by simp [Builtin.firstCells], ?_⟩
    refine ⟨by simp, fun i x y hx hy => ?_⟩
    simp at hx hy
    obtain ⟨b, hb, rfl⟩ := hx
    obtain ⟨c, hc, rfl⟩ := hy
    rw [hb] at hc; cases hc
    exact .int _ _
  · simp [aSrcLen] at hn; simp [aSrc] at hs
    subst hn hs
    exact ⟨#[], by simp [Builtin.firstCells], .nil _⟩
  · rename_i a a' c c' had hnc hcr
    simp [aSrcLen] at hn; simp [aSrc] at hs
    subst hn
    obtain ⟨cs', hrun, hl⟩ := run_loadCells h had hs
    exact ⟨cs', by simp [Builtin.firstCells, hrun], hl⟩
  · simp [aSrcLen] at hn; simp [aSrc] at hs
    subst hn
    obtain ⟨_, _, _, _, _, _, hl, _⟩ := loadN_spec hs
    have : new = [] := List.eq_nil_of_length_eq_zero (by simpa using hl)
    subst this
    exact ⟨#[], by simp [Builtin.firstCells, loadCells, loadCellsFrom], .nil _⟩

theorem next_le (need cap : Nat) (h : cap < need) : Builtin.nextslicecap need cap ≤ 2 * need + 200 := by
  unfold Builtin.nextslicecap
  split
  · omega
  · split
    · omega
    · have key : ∀ (r c : Nat), c ≤ 2 * need + 200 → Builtin.growBy need r c ≤ 2 * need + 200 := by
        intro r
        induction r with
        | zero => intro c hc; simpa [Builtin.growBy] using hc
        | succ r ih =>
          intro c hc
          simp only [Builtin.growBy]
          split
          · exact hc
          · exact ih _ (by omega)
      exact key 4 cap (by omega)

theorem zeroCells_size (z : Array Value) (n : Nat) : (Builtin.zeroCells z n).size = n * z.size := by simp [Builtin.zeroCells]

/-- The block of a slice that moves is set aside. -/
theorem kill_step (h : WRel P mts ρ σ w) {esz : Nat} {a : Addr} {m : BM} (hm : ρ a.block = some m) {cap : Nat} {σ₁ : AW} (hk : aKill σ esz a cap = some σ₁) :
    Step P mts ρ σ w ρ σ₁ w ∧ σ₁.next = σ.next := by
  unfold aKill at hk
  split at hk
  · rename_i c el z ro hg
    cases hz : Nat.beq z 0 with
    | true => rw [hz] at hk; simp at hk; subst hk; exact ⟨.refl h, rfl⟩
    | false =>
      rw [hz] at hk
      simp only [cond_false] at hk
      cases he : Nat.beq z esz && !ro with
      | false => rw [he] at hk; simp at hk
      | true =>
        rw [he] at hk
        simp only [cond_true] at hk
        cases hl : Nat.beq (a.off + cap * esz) c.length with
        | false => rw [hl] at hk; simp at hk; subst hk; exact ⟨.refl h, rfl⟩
        | true =>
          rw [hl] at hk
          simp at hk
          subst hk
          have hob := h.obj _ _ _ hm hg
          obtain ⟨h1, h2, arr, el', lo, hi, e, _⟩ := hob
          have hro : m.ro = false := by rw [h2]; rw [Bool.and_eq_true] at he; simpa using he.2
          refine ⟨step_upd h hm hro hg (by simp) .dead (.cells arr el' (lo, hi)) (fun cc => ?_) rfl rfl rfl rfl hro (fun b n an hb hn hcc hgb => ?_), rfl⟩
          · by_cases hcc : cc = m.c
            · subst hcc; simp [e]
            · simp [hcc]
          · have := h.obj b n an hn hgb
            rwa [hcc, e] at this
  · cases hk

/-- Some cells of one row written, in the model's memory. -/
theorem run_storeRow {c o : Nat} {el : TypeId} {lo hi : Nat} : ∀ (vs : List Value) (i : Nat) (arr : Array Value) (w : World), w.heap[c]? = some (.cells arr el (lo, hi)) → vs.all isCell = true →
    o + i + vs.length ≤ arr.size → (∀ j, o + i ≤ j → j < o + i + vs.length → ¬ (lo ≤ j ∧ j < hi)) →
    ∃ w' arr', (storeCells ⟨c, o, none⟩ vs i).run P w = .ok () w' ∧ (∀ c', w'.heap[c']? = if c' = c then some (.cells arr' el (lo, hi)) else w.heap[c']?) ∧ w'.heap.size = w.heap.size ∧
      w'.tape = w.tape ∧ w'.os = w.os ∧ w'.output = w.output ∧ arr'.size = arr.size ∧
      ∀ j, arr'[j]? = if o + i ≤ j ∧ j < o + i + vs.length then vs[j - (o + i)]? else arr[j]? := by
  intro vs
  induction vs with
  | nil =>
    intro i arr w hc _ _ _
    refine ⟨w, arr, by simp [storeCells], fun c' => ?_, rfl, rfl, rfl, rfl, rfl, fun j => ?_⟩
    · split
      · rename_i e; subst e; exact hc
      · rfl
    · rw [if_neg (by simp)]
  | cons v vs ih =>
    intro i arr w hc hall hsz hfree
    simp only [List.all_cons, Bool.and_eq_true] at hall
    simp only [List.length_cons] at hsz hfree ⊢
    have hadd : (Addr.add ⟨c, o, none⟩ i) = ⟨c, o + i, none⟩ := Addr.add_lit _ _ _
    have hcell : (w.cell? ⟨c, o + i, none⟩).isSome := by
      simp only [World.cell?, hc]
      simp
      omega
    have hfr : w.frozen? ⟨c, o + i, none⟩ = false := by
      simp only [World.frozen?, hc]
      rw [Bool.eq_false_iff]
      intro hh
      simp only [Bool.and_eq_true, decide_eq_true_eq] at hh
      exact hfree (o + i) (Nat.le_refl _) (by omega) hh
    have hset : ∀ c', (w.setCell ⟨c, o + i, none⟩ v).heap[c']? = if c' = c then some (.cells (arr.setIfInBounds (o + i) v) el (lo, hi)) else w.heap[c']? := by
      intro c'
      simp only [World.setCell]
      rw [Array.getElem?_modify]
      by_cases e : c' = c
      · subst e; simp [hc]
      · rw [if_neg (fun e' => e e'.symm)]; simp [e]
    obtain ⟨w', arr', hrun, h1, h2, h3, h4, h5, h6, h7⟩ := ih (i + 1) (arr.setIfInBounds (o + i) v) (w.setCell ⟨c, o + i, none⟩ v) (by rw [hset]; simp) hall.2
      (by simp; omega) (fun j hj hj' => hfree j (by omega) (by omega))
    refine ⟨w', arr', ?_, fun c' => ?_, ?_, h3, h4, h5, by simpa using h6, fun j => ?_⟩
    · have hst := run_store (P := P) hcell hfr hall.1
      simp only [storeCells, hadd, Sem.run_bind, hst, Result.andThen_ok]
      exact hrun
    · rw [h1, hset]
      by_cases e : c' = c
      · simp [e]
      · simp [e]
    · rw [h2]; simp [World.setCell]
    · rw [h7]
      by_cases h8 : o + (i + 1) ≤ j ∧ j < o + (i + 1) + vs.length
      · rw [if_pos h8, if_pos (by omega)]
        rw [show j - (o + i) = (j - (o + (i + 1))) + 1 by omega]
        rfl
      · rw [if_neg h8]
        by_cases h9 : j = o + i
        · subst h9
          rw [if_pos (by omega), Array.getElem?_setIfInBounds_self_of_lt (by omega)]
          simp
        · rw [if_neg (by omega), Array.getElem?_setIfInBounds_ne (by omega)]

/-- A slice that is appended to where the model has room: its block gives way to a new one that stands in the same place. -/
theorem step_regrow (h : WRel P mts ρ σ w) {a : Addr} {m : BM} (hm : ρ a.block = some m) {c : List Value} {el0 : TypeId} {z : Nat} (hg : σ.heap.get a.block = some (.cells c el0 z false))
    {w' : World} {arr arr' : Array Value} {el : TypeId} {lo hi : Nat} (hw : w.heap[m.c]? = some (.cells arr el (lo, hi))) {k : Nat} {new' : List Value} (hk : a.off + k + new'.length ≤ m.reach)
    (h1 : ∀ c', w'.heap[c']? = if c' = m.c then some (.cells arr' el (lo, hi)) else w.heap[c']?) (h2 : w'.heap.size = w.heap.size) (h3 : w'.tape = w.tape) (h4 : w'.os = w.os) (h5 : w'.output = w.output)
    (h6 : arr'.size = arr.size) (h7 : ∀ j, arr'[j]? = if m.base + a.off + k ≤ j ∧ j < m.base + a.off + k + new'.length then new'[j - (m.base + a.off + k)]? else arr[j]?)
    {old new : List Value} (ho : old.length = k) (hold : ∀ i, i < k → old[i]? = c[a.off + i]?) (hnew : LRel ρ new new') (el' : TypeId) (esz : Nat) :
    Step P mts ρ σ w (ρ.with σ.next ⟨m.c, m.base + a.off, (old ++ new).length, m.reach - a.off, esz, false⟩) ((σ.upd a.block .dead).push (.cells (old ++ new) el' esz false)) w' := by
  have hob := h.obj _ _ _ hm hg
  obtain ⟨_, hro, arr0, el1, lo1, hi1, e, hsz, hlen, hle, hfz, hcs⟩ := hob
  rw [hw] at e
  cases e
  have hnone : ρ σ.next = none := h.none_of_le (Nat.le_refl _)
  have hle' := Rho.with_le (m := ⟨m.c, m.base + a.off, (old ++ new).length, m.reach - a.off, esz, false⟩) hnone
  have hd := h.dom _ _ hm
  have hnl : new.length = new'.length := hnew.1
  have hget : ∀ b, ((σ.upd a.block .dead).push (.cells (old ++ new) el' esz false)).heap.get b =
      if b = σ.next then some (.cells (old ++ new) el' esz false) else if b = a.block then some .dead else σ.heap.get b := by
    intro b; rw [push_get]; simp only [AW.upd, T.get_set]
  have hoth : ∀ b n an, b ≠ a.block → ρ b = some n → n.c = m.c → σ.heap.get b = some an → ObjRel P mts ρ n (some (.cells arr' el (lo, hi))) an := by
    intro b n an hb hn hnc hgb
    have hob := h.obj _ _ _ hn hgb
    rw [hnc, hw] at hob
    cases an with
    | cells cs2 el2 z2 ro2 =>
      obtain ⟨hz2, hro2, arr2, el2', lo2, hi2, e2, hsz2, hlen2, hle2, hfz2, hc2⟩ := hob
      cases e2
      refine ⟨hz2, hro2, _, el, lo, hi, rfl, by omega, hlen2, hle2, hfz2, ?_⟩
      intro i x hx
      obtain ⟨y, hy, hr⟩ := hc2 i x hx
      have hi2 : i < cs2.length := (List.getElem?_eq_some_iff.1 hx).1
      refine ⟨y, ?_, hr⟩
      rw [h7, if_neg ?_]
      · exact hy
      · rcases h.disj b a.block n m hn hm hb hnc with x | x | x | x
        · rw [hro] at x; exact absurd x.2 (by simp)
        · simp [Dead, hgb] at x
        · simp [Dead, hg] at x
        · rcases x.2.2 with x | x <;> omega
    | map es ck => obtain ⟨_, _, _, es', e2, _⟩ := hob; cases e2
    | loop L => obtain ⟨_, _, _, l, e2, _⟩ := hob; cases e2
    | dead => exact hob
  refine { rel := ?_, le := hle', new := ?_, own := ?_, next := by simp [AW.push, AW.upd], aframe := ?_, size := by omega, cframe := ?_, tape := h3, os := h4, out := h5 }
  · refine { dom := ?_, obj := ?_, disj := ?_, fresh := ?_ }
    · intro b n e
      by_cases hb : b = σ.next
      · subst hb; simp [Rho.with] at e; subst e; simp [AW.push, AW.upd]; omega
      · simp [Rho.with, hb] at e
        have := h.dom b n e
        simp [AW.push, AW.upd]; omega
    · intro b n an e e'
      rw [hget] at e'
      by_cases hb : b = σ.next
      · subst hb; simp [Rho.with] at e; subst e
        simp at e'; subst e'
        refine ObjRel.mono (ρ := ρ) hle' ⟨rfl, rfl, arr', el, lo, hi, by rw [h1]; simp, ?_, by simp, ?_, ?_, ?_⟩
        · simp only; omega
        · simp; omega
        · intro j hj hj'; exact hfz j (by simp at hj; omega) (by simp at hj'; omega)
        · intro i x hx
          simp only
          by_cases hi : i < k
          · rw [List.getElem?_append_left (by omega), hold i hi] at hx
            obtain ⟨y, hy, hr⟩ := hcs _ _ hx
            refine ⟨y, ?_, hr⟩
            rw [h7, if_neg (by omega), ← hy]; congr 1; omega
          · rw [List.getElem?_append_right (by omega), ho] at hx
            obtain ⟨y, hy, hr⟩ := hnew.get hx
            have hi' : i - k < new.length := (List.getElem?_eq_some_iff.1 hx).1
            refine ⟨y, ?_, hr⟩
            rw [h7, if_pos (by omega), ← hy]; congr 1; omega
      · simp [Rho.with, hb] at e
        simp [hb] at e'
        refine ObjRel.mono (ρ := ρ) hle' ?_
        rw [h1]
        by_cases hba : b = a.block
        · subst hba
          simp at e'; subst e'
          rw [hm] at e; cases e
          exact hro
        · simp [hba] at e'
          by_cases hcc : n.c = m.c
          · simp only [hcc, if_true]; exact hoth b n an hba e hcc e'
          · simp only [hcc, if_false]; exact h.obj b n an e e'
    · intro b b' n n' e e' hbb hcc
      have hdead : ∀ x, Dead σ x → x ≠ σ.next → Dead ((σ.upd a.block .dead).push (.cells (old ++ new) el' esz false)) x := by
        intro x hx hxn
        unfold Dead at *
        rw [hget, if_neg hxn]
        split
        · rfl
        · exact hx
      have hda : Dead ((σ.upd a.block .dead).push (.cells (old ++ new) el' esz false)) a.block := by
        unfold Dead
        rw [hget, if_neg (by omega)]
        simp
      have sub : ∀ b n, b ≠ σ.next → ρ b = some n → n.c = m.c → Dead ((σ.upd a.block .dead).push (.cells (old ++ new) el' esz false)) b ∨ (n.ro = false ∧ Apart n ⟨m.c, m.base + a.off, (old ++ new).length, m.reach - a.off, esz, false⟩) := by
        intro b n hbn hn hnc
        by_cases hba : b = a.block
        · subst hba; exact .inl hda
        · rcases h.disj b a.block n m hn hm hba hnc with x | x | x | x
          · rw [hro] at x; cases x.2
          · exact .inl (hdead b x hbn)
          · simp [Dead, hg] at x
          · right
            refine ⟨x.1, ?_⟩
            have := x.2.2
            unfold Apart at *
            simp only
            omega
      by_cases hb : b = σ.next
      · subst hb; simp [Rho.with] at e; subst e
        by_cases hb' : b' = σ.next
        · exact absurd hb'.symm hbb
        · simp [Rho.with, hb'] at e'
          rcases sub b' n' hb' e' hcc.symm with x | ⟨x, y⟩
          · exact .inr (.inr (.inl x))
          · exact .inr (.inr (.inr ⟨rfl, x, y.symm⟩))
      · simp [Rho.with, hb] at e
        by_cases hb' : b' = σ.next
        · subst hb'; simp [Rho.with] at e'; subst e'
          rcases sub b n hb e hcc with x | ⟨x, y⟩
          · exact .inr (.inl x)
          · exact .inr (.inr (.inr ⟨x, rfl, y⟩))
        · simp [Rho.with, hb'] at e'
          rcases h.disj b b' n n' e e' hbb hcc with x | x | x | x
          · exact .inl x
          · exact .inr (.inl (hdead _ x hb))
          · exact .inr (.inr (.inl (hdead _ x hb')))
          · exact .inr (.inr (.inr x))
    · intro b hb
      simp [AW.push, AW.upd] at hb
      rw [hget, if_neg (by omega), if_neg (by omega)]
      exact h.fresh b (by omega)
  · intro b n e e'
    by_cases hb : b = σ.next
    · omega
    · simp [Rho.with, hb, e] at e'
  · intro b n e e'
    by_cases hb : b = σ.next
    · subst hb; simp [Rho.with] at e'; subst e'; exact .inr ⟨a.block, m, hm, rfl, hro⟩
    · simp [Rho.with, hb, e] at e'
  · intro b hb e
    rw [hget, if_neg (by omega), if_neg (fun hba => by subst hba; rw [hm] at e; cases e)]
  · intro cc hc ho
    rw [h1]
    have : cc ≠ m.c := by intro hcm; subst hcm; exact ho ⟨a.block, m, hm, rfl, hro⟩
    simp [this]

theorem all_rel {l l' : List Value} (h : LRel ρ l l') (ha : l.all isCell = true) : l'.all isCell = true := by
  induction l generalizing l' with
  | nil =>
    have : l' = [] := List.eq_nil_of_length_eq_zero h.1.symm
    subst this; rfl
  | cons x l ih =>
    obtain ⟨y, m, rfl, hx, hl⟩ := h.uncons
    simp only [List.all_cons, Bool.and_eq_true] at ha ⊢
    exact ⟨by rw [← isCell_rel hx]; exact ha.1, ih hl ha.2⟩

theorem match_isInt (u : TypeDesc) : Builtin.append_.match_1 (fun _ => Bool) u (fun _ => true) (fun _ => false) = isIntD u := by cases u <;> rfl

/-- What the model does where an append finds no room. -/
theorem append_moves {tys : Array TypeId} {t0 t t1 e : TypeId} (ht : tys[0]? = some t) (ht1 : tys[1]? = some t1) (hu : P.underlying t = some (.slice e)) {u : TypeDesc} (hu1 : P.underlying t1 = some u) (hni : isIntD u = false)
    {esz bytes : Nat} {z : Value} (hs : sizeT P e = some esz) (hb : bytesT P e = some bytes) (hz : zeroT P e = some z) (hzl : (vcells z).length = esz)
    {base : Option Addr} {len cap' n : Nat} {x' : Value} (hlen : ∀ w', (Builtin.lenOf x').run P w' = .ok n w') {old' new' : Array Value}
    (hdr : (Builtin.firstCells esz len (.slice base len cap')).run P { w with drawn := w.drawn + 1 } = .ok old' { w with drawn := w.drawn + 1 })
    (hdn : (Builtin.firstCells esz n x').run P { w with drawn := w.drawn + 1 } = .ok new' { w with drawn := w.drawn + 1 })
    (hroom : cap' < len + n) (hmax : (len + n) * (bytes + 1) ≤ maxBytes) :
    ∃ (newCap : Nat) (rest : Array Value), len + n ≤ newCap ∧ rest.size = (newCap - (len + n)) * esz ∧
      (Builtin.append_ tys t0 #[.slice base len cap', x']).run P w =
        .ok (.slice (some ⟨w.heap.size, 0, none⟩) (len + n) newCap) { w with drawn := w.drawn + 1, heap := w.heap.push (.cells (old' ++ new' ++ rest) e) } := by
  obtain ⟨ie, hie, hbe⟩ := run_infoT hb w
  have hty : ∀ w' : World, (typeInfo e).run P w' = .ok ie w' := by
    intro w'
    simp only [bytesT, Option.map_eq_some_iff] at hb
    obtain ⟨i, hi, _⟩ := hb
    have h1 : (typeInfo e).run P w = .ok i w := by simp [typeInfo, hi]
    rw [h1] at hie
    cases hie
    simp [typeInfo, hi]
  have hzs : z.cells.size = esz := by have := congrArg List.length (cells_eq z); simp at this; omega
  have hmx : maxBytes = 1099511627776 := rfl
  rw [hmx] at hmax
  obtain ⟨nc, hnc⟩ : ∃ nc, nc = (Question.appendCap (len + n) cap' e).cut (w.tape w.drawn (.appendCap (len + n) cap' e)) := ⟨_, rfl⟩
  have hge : len + n ≤ nc := by rw [hnc]; exact Nat.le_add_right _ _
  refine ⟨nc, Builtin.zeroCells z.cells (nc - (len + n)), hge, by rw [zeroCells_size, hzs], ?_⟩
  have hnx := next_le (len + n) cap' hroom
  have hpos : 1 ≤ len + n := by omega
  have hbb : bytes + 1 ≤ 1099511627776 := by
    have : 1 * (bytes + 1) ≤ (len + n) * (bytes + 1) := Nat.mul_le_mul_right _ hpos
    omega
  have hnb : Builtin.nextslicecap (len + n) cap' * bytes ≤ 2 ^ 48 := by
    have h1 : Builtin.nextslicecap (len + n) cap' * bytes ≤ (2 * (len + n) + 200) * bytes := Nat.mul_le_mul_right _ hnx
    have h2 : (2 * (len + n) + 200) * bytes = 2 * ((len + n) * bytes) + 200 * bytes := by rw [Nat.add_mul, Nat.mul_assoc]
    have h3 : (len + n) * (bytes + 1) = (len + n) * bytes + (len + n) := by rw [Nat.mul_add, Nat.mul_one]
    omega
  have hi64 : ¬ ((len + n : Nat) : Int) > 9223372036854775807 := by
    have : (len + n) * 1 ≤ (len + n) * (bytes + 1) := Nat.mul_le_mul_left _ (by omega)
    omega
  have hq : (Question.appendCap (len + n) cap' e).forced = false := rfl
  unfold Builtin.append_
  simp only [ht, ht1, List.getElem?_toArray, List.getElem?_cons_zero, List.getElem?_cons_succ, Sem.run_bind, run_underlying hu, Result.andThen_ok, run_sizeT hs, run_underlying hu1]
  simp only [match_isInt, hni, Sem.run_pure]
  simp only [Result.andThen_ok, Bool.false_eq_true, if_false, Bool.not_false, if_true, Sem.run_bind, hlen, false_or]
  rw [if_neg (by omega)]
  simp only [Sem.run_bind, hty, Result.andThen_ok, hbe, IntKind.max_i64]
  rw [if_neg (fun hh => hi64 hh.1)]
  simp only [Sem.run_bind, hty, Result.andThen_ok, hbe]
  rw [if_neg (by omega)]
  simp only [Sem.run_bind, run_choose, hq, Bool.false_eq_true, if_false, ← hnc, Result.andThen_ok, hty, run_askRoom, hdr, hdn, run_zeroT hz, newRow, run_newObj, Sem.run_pure]

/-- What the model does where an append finds room. -/
theorem append_stays {tys : Array TypeId} {t0 t t1 e : TypeId} (ht : tys[0]? = some t) (ht1 : tys[1]? = some t1) (hu : P.underlying t = some (.slice e)) {u : TypeDesc} (hu1 : P.underlying t1 = some u) (hni : isIntD u = false)
    {esz : Nat} (hs : sizeT P e = some esz) {base : Option Addr} {len cap' n : Nat} {x' : Value} (hlen : ∀ w', (Builtin.lenOf x').run P w' = .ok n w') {new' : Array Value}
    (hnew : (Builtin.firstCells esz n x').run P w = .ok new' w) (hroom : len + n ≤ cap') {w' : World}
    (hst : (match base with | some a => storeCells (a.add (len * esz)) new'.toList | none => pure () : Sem Unit).run P w = .ok () w') :
    (Builtin.append_ tys t0 #[.slice base len cap', x']).run P w = .ok (.slice base (len + n) cap') w' := by
  unfold Builtin.append_
  simp only [ht, ht1, List.getElem?_toArray, List.getElem?_cons_zero, List.getElem?_cons_succ, Sem.run_bind, run_underlying hu, Result.andThen_ok, run_sizeT hs, run_underlying hu1]
  simp only [match_isInt, hni, Sem.run_pure]
  simp only [Result.andThen_ok, Bool.false_eq_true, if_false, Bool.not_false, if_true, Sem.run_bind, hlen, false_or]
  rw [if_pos hroom]
  simp only [Sem.run_bind, hnew, Result.andThen_ok]
  cases base with
  | none => simp at hst; subst hst; simp
  | some a => simp only at hst; simp [hst]

theorem moves_fin {σ₁ : AW} (hk : Step P mts ρ σ w ρ σ₁ w) {e : TypeId} {esz len n nc : Nat} (hpos : 0 < esz) {old new : List Value} {old' new' rest : Array Value}
    (ho : LRel ρ old old'.toList) (hn : LRel ρ new new'.toList) (hol : old.length = len * esz) (hnl : new.length = n * esz) (hge : len + n ≤ nc) (hrs : rest.size = (nc - (len + n)) * esz) {s : Sem Value}
    (hrun : s.run P w = .ok (.slice (some ⟨w.heap.size, 0, none⟩) (len + n) nc) { w with drawn := w.drawn + 1, heap := w.heap.push (.cells (old' ++ new' ++ rest) e) }) :
    Sim P mts ρ σ w (valOf s) (.slice (some ⟨σ₁.next, 0, none⟩) (len + n) (len + n)) (σ₁.push (.cells (old ++ new) e esz false)) := by
  have hd1 := hk.trans (step_drawn hk.rel (w.drawn + 1))
  have hlen1 : old.length = old'.size := by simpa using ho.1
  have hlen2 : new.length = new'.size := by simpa using hn.1
  have hl2 : LRel ρ (old ++ new) ((old' ++ new' ++ rest).toList.take (old ++ new).length) := by
    have : (old' ++ new' ++ rest).toList.take (old ++ new).length = old'.toList ++ new'.toList := by
      rw [List.length_append, hlen1, hlen2]
      simp only [Array.toList_append]
      rw [List.take_left']
      simp
    rw [this]; exact ho.append hn
  have st := step_new hd1.rel (old ++ new) (old' ++ new' ++ rest) e e esz 0 0 (by simp; omega) hl2 (fun j _ => by omega)
  refine Sim.value hrun (.slice _ _ _ _ _ (with_ad _ _ _ rfl) (Nat.le_refl _) (.inr ⟨hge, _, Rho.with_same _ _ _, hpos, ?_, ?_⟩)) (hd1.trans st)
  · simp only [List.length_append, hol, hnl, Nat.add_mul]; omega
  · simp only [Array.size_append, ← hlen1, ← hlen2, hol, hnl, hrs]
    have : (nc - (len + n)) * esz + (len + n) * esz = nc * esz := by rw [← Nat.add_mul]; congr 1; omega
    rw [Nat.add_mul] at this
    omega

theorem storeCells_shift (c o k : Nat) : ∀ (vs : List Value) (i : Nat), storeCells ⟨c, o + k, none⟩ vs i = storeCells ⟨c, o, none⟩ vs (k + i)
  | [], _ => rfl
  | v :: vs, i => by
    simp only [storeCells, Addr.add_lit]
    rw [storeCells_shift c o k vs (i + 1), show o + k + i = o + (k + i) by omega, show k + (i + 1) = k + i + 1 by omega]

theorem appends (h : WRel P mts ρ σ w) {ev ev' : Operand → Value} {tys : Array TypeId} {t0 : TypeId} {s x : Operand} {ao : AOp}
    (hc : compBuiltin P .append tys [s, x] = some ao) (hs : VRel ρ (ev s) (ev' s)) (hx : VRel ρ (ev x) (ev' x)) {v : Value} {σ' : AW} (hr : aop ev ao σ = some (v, σ')) :
    Sim P mts ρ σ w (valOf (Builtin.append_ tys t0 #[ev' s, ev' x])) v σ' := by
  unfold compBuiltin at hc
  simp only at hc
  split at hc
  rotate_left
  · cases hc
  rename_i e hu
  split at hc
  rotate_left
  · cases hc
  rename_i esz bytes z u hsz hby hz hu1
  cases hb : lenIs (vcells z) esz && !isIntD u with
  | false => rw [hb] at hc; simp at hc
  | true =>
    rw [hb] at hc
    simp only [cond_true, Option.some.injEq] at hc
    subst hc
    rw [Bool.and_eq_true] at hb
    have hzl := lenIs_eq _ _ hb.1
    have hni : isIntD u = false := by simpa using hb.2
    simp only [Option.bind_eq_some_iff] at hu hu1
    obtain ⟨t, ht, hu⟩ := hu
    obtain ⟨t1, ht1, hu1⟩ := hu1
    simp only [aop] at hr
    generalize ev s = us at hs hr
    generalize ev' s = us' at hs ⊢
    generalize ev x = ux at hx hr
    generalize ev' x = ux' at hx ⊢
    unfold aAppend at hr
    split at hr
    rotate_left
    · cases hr
    rename_i base len cap n new hn hnew
    cases h0 : Nat.beq esz 0 with
    | true => rw [h0] at hr; simp at hr
    | false =>
      have hpos : 0 < esz := by
        rcases Nat.eq_zero_or_pos esz with h1 | h1
        · subst h1; simp at h0
        · exact h1
      rw [h0] at hr
      simp only [cond_false] at hr
      have hlen : ∀ w', (Builtin.lenOf ux').run P w' = .ok n w' := fun w' => len_run hx hn w'
      obtain ⟨new', hfirst, hlr⟩ := first_run h hx hn hnew
      cases hroom : Nat.ble (len + n) cap with
      | true =>
        have hroom' := Nat.le_of_ble_eq_true hroom
        rw [hroom] at hr
        simp only [cond_true] at hr
        cases hn0 : Nat.beq n 0 with
        | true =>
          have hn0' := Nat.eq_of_beq_eq_true hn0
          rw [hn0] at hr
          simp only [cond_true, Option.some.injEq, Prod.mk.injEq] at hr
          obtain ⟨rfl, rfl⟩ := hr
          subst hn0'
          have hnil : new' = #[] := by
            have hl0 : new.length = 0 := by
              cases hx <;> try (simp [aSrcLen] at hn; done)
              · rename_i s0
                simp [aSrcLen] at hn; simp [aSrc] at hnew
                subst hnew
                have : s0.data.size = s0.size := rfl
                simp; omega
              · simp [aSrc] at hnew; subst hnew; rfl
              · simp [aSrcLen] at hn; subst hn; simp [aSrc] at hnew
                obtain ⟨_, _, _, _, _, _, hl, _⟩ := loadN_spec hnew
                simpa using hl
              · simp [aSrc] at hnew
                obtain ⟨_, _, _, _, _, _, hl, _⟩ := loadN_spec hnew
                simpa using hl
            have := hlr.1
            rw [hl0] at this
            exact Array.eq_empty_of_size_eq_zero (by simpa using this.symm)
          have hst0 : ∀ b : Option Addr, (match b with | some a => storeCells (a.add (len * esz)) new'.toList | none => pure () : Sem Unit).run P w = .ok () w := by
            intro b; cases b <;> simp [hnil, storeCells]
          cases hs with
          | sliceNil =>
            exact Sim.value (append_stays (w' := w) ht ht1 hu hu1 hni hsz hlen hfirst (Nat.le_refl _) (hst0 none)) .sliceNil (.refl h)
          | slice a a' _ _ c' had hnc hcr =>
            have hcc : cap ≤ c' := by rcases hcr with hcr | hcr; · omega
                                      · exact hcr.1
            exact Sim.value (append_stays (w' := w) ht ht1 hu hu1 hni hsz hlen hfirst (by omega) (hst0 (some a'))) (.slice _ _ _ _ _ had hroom' hcr) (.refl h)
          | slice0 a a' mm hmm =>
            exact Sim.value (append_stays (w' := w) ht ht1 hu hu1 hni hsz hlen hfirst (Nat.le_refl _) (hst0 (some a'))) (.slice0 _ _ mm hmm) (.refl h)
        | false =>
          have hn1 : n ≠ 0 := by intro e0; subst e0; simp at hn0
          rw [hn0] at hr
          simp only [cond_false] at hr
          split at hr
          · rename_i a
            simp only [Option.map_eq_some_iff] at hr
            obtain ⟨σ1, hst, he⟩ := hr
            cases he
            cases hs with
            | slice a a' _ _ c' had hnc hcr =>
              have hcc : cap ≤ c' := by rcases hcr with hcr | hcr; · omega
                                        · exact hcr.1
              obtain ⟨w', hrun, st⟩ := run_storeN h (ad_add had (len * esz)) hlr hst
              refine Sim.value (append_stays ht ht1 hu hu1 hni hsz hlen hfirst (by omega) (w' := w') ?_) ((VRel.slice _ _ _ _ _ had hroom' hcr).mono st.le) st
              exact hrun
            | slice0 a a' => omega
          · cases hr
      | false =>
        have hroom' : cap < len + n := by
          rcases Nat.lt_or_ge cap (len + n) with h1 | h1
          · exact h1
          · rw [Nat.ble_eq_true_of_le h1] at hroom; cases hroom
        rw [hroom] at hr
        simp only [cond_false] at hr
        cases hm : Nat.ble ((len + n) * (bytes + 1)) maxBytes && (new.all isCell && Nat.beq new.length (n * esz)) with
        | false => rw [hm] at hr; simp at hr
        | true =>
          rw [hm] at hr
          rw [Bool.and_eq_true] at hm
          have hmax := Nat.le_of_ble_eq_true hm.1
          have hm2 := hm.2
          rw [Bool.and_eq_true] at hm2
          have hcells' := all_rel hlr hm2.1
          have hnl := Nat.eq_of_beq_eq_true hm2.2
          simp only [cond_true] at hr
          have hd1 := step_drawn h (w.drawn + 1)
          obtain ⟨new1, hdn, hln⟩ := first_run hd1.rel hx hn hnew
          cases hs with
          | sliceNil =>
            simp only [Nat.beq_refl, cond_true, Option.some.injEq, Prod.mk.injEq] at hr
            obtain ⟨rfl, rfl⟩ := hr
            obtain ⟨nc, rest, hge, hrs, hrun⟩ := append_moves (t0 := t0) ht ht1 hu hu1 hni hsz hby hz hzl hlen (base := none) (len := 0) (cap' := 0) (old' := #[])
              (by simp [Builtin.firstCells]) hdn hroom' hmax
            exact moves_fin (.refl h) hpos (old := []) (.nil _) hln (by simp) hnl hge hrs hrun
          | slice a a' _ _ c' had hnc hcr =>
            simp only at hr
            split at hr
            · rename_i old σ1 hold hkill
              cases hr
              obtain ⟨hk, hkn⟩ := kill_step h had.2.choose_spec.1 hkill
              obtain ⟨_, c, el0, z0, ro0, hg, hol, hoi⟩ := loadN_spec hold
              by_cases hin : len + n ≤ c'
              · -- the model has room: the new slice stands where the old one stood
                rcases hcr with hcr | ⟨hcc, m, hm1, hme, hms, hmr⟩
                · omega
                · have hob := h.obj _ _ _ hm1 hg
                  obtain ⟨hz0, hro0, arr, el, lo, hi, hw, hsz2, hlen2, hle2, hfz, hcs⟩ := hob
                  unfold aKill at hkill
                  rw [hg] at hkill
                  simp only at hkill
                  have hz1 : Nat.beq z0 0 = false := by
                    cases hb0 : Nat.beq z0 0 with
                    | false => rfl
                    | true => have := Nat.eq_of_beq_eq_true hb0; omega
                  rw [hz1] at hkill
                  simp only [cond_false] at hkill
                  cases hze : Nat.beq z0 esz && !ro0 with
                  | false => rw [hze] at hkill; simp at hkill
                  | true =>
                    rw [hze] at hkill
                    rw [Bool.and_eq_true] at hze
                    have hzz := Nat.eq_of_beq_eq_true hze.1
                    have hrof : ro0 = false := by simpa using hze.2
                    subst hrof
                    simp only [cond_true] at hkill
                    have hend : Nat.beq (a.off + cap * esz) c.length = true := by
                      rw [← hzz, ← hz0, hms, hlen2]; exact Nat.beq_refl _
                    rw [hend] at hkill
                    simp only [cond_true, Option.some.injEq] at hkill
                    subst hkill
                    obtain ⟨_, m', hm', rfl⟩ := had
                    rw [hm1] at hm'
                    cases hm'
                    have hnl' : new'.toList.length = n * esz := by rw [← hlr.1]; exact hnl
                    have hcap1 : (len + n) * esz ≤ c' * esz := Nat.mul_le_mul_right _ hin
                    rw [hz0, hzz] at hmr
                    rw [Nat.add_mul] at hcap1
                    obtain ⟨w', arr', hrun, q1, q2, q3, q4, q5, q6, q7⟩ := run_storeRow (P := P) (c := m.c) (o := m.base + a.off) (el := el) (lo := lo) (hi := hi) new'.toList (len * esz) arr w hw hcells'
                      (by rw [hnl']; omega) (fun j hj hj' => hfz j (by omega) (by rw [hnl'] at hj'; omega))
                    have hst : (storeCells ((Addr.mk m.c (m.base + a.off) none).add (len * esz)) new'.toList).run P w = .ok () w' := by
                      rw [Addr.add_lit, storeCells_shift]
                      exact hrun
                    have st := step_regrow (k := len * esz) (el' := e) (esz := esz) h hm1 hg hw (by rw [hnl']; omega) q1 q2 q3 q4 q5 q6 q7 hol hoi hlr
                    refine Sim.value (append_stays (w' := w') ht ht1 hu hu1 hni hsz hlen hfirst hin hst) ?_ st
                    refine .slice _ _ _ _ _ ⟨rfl, _, Rho.with_same _ _ _, by simp⟩ (Nat.le_refl _) (.inr ⟨hin, _, Rho.with_same _ _ _, hpos, ?_, ?_⟩)
                    · simp only [List.length_append, hol, hnl, Nat.add_mul]; omega
                    · simp only; omega
              · obtain ⟨old1, hdo, hlo⟩ := run_loadCells hd1.rel had hold
                obtain ⟨nc, rest, hge, hrs, hrun⟩ := append_moves (t0 := t0) ht ht1 hu hu1 hni hsz hby hz hzl hlen (base := some a') (len := len) (cap' := c') (old' := old1)
                  (by simp only [Builtin.firstCells]; exact hdo) hdn (by omega) hmax
                rw [hkn]
                have := moves_fin hk hpos hlo hln hol hnl hge hrs hrun
                rw [hkn] at this
                exact this
            · cases hr
          | slice0 a a' mm hmm =>
            simp only at hr
            split at hr
            · rename_i old σ1 hold hkill
              cases hr
              obtain ⟨hk, hkn⟩ := kill_step h hmm hkill
              obtain ⟨_, c, el0, z0, ro0, hg, hol, hoi⟩ := loadN_spec hold
              have hnil : old = [] := List.eq_nil_of_length_eq_zero (by simpa using hol)
              subst hnil
              obtain ⟨nc, rest, hge, hrs, hrun⟩ := append_moves (t0 := t0) ht ht1 hu hu1 hni hsz hby hz hzl hlen (base := some a') (len := 0) (cap' := 0) (old' := #[])
                (by simp [Builtin.firstCells, loadCells, loadCellsFrom]) hdn (by omega) hmax
              exact moves_fin hk hpos (.nil _) hln hol hnl hge hrs hrun
            · cases hr

end
end Go.AM
