/- The model's reads and writes of memory, beside the abstract machine's. -/
import Derived.Test.YtcclefkkjboaeaaGreatDoorARel

namespace Go.AM
open Go

section
variable {P : Program} {mts : List TypeId}

theorem upd_get (σ : AW) (r : Nat) (o : AObj) (b : Nat) : (σ.upd r o).heap.get b = if b = r then some o else σ.heap.get b := by
  simp [AW.upd, T.get_set]

/-- One object turned, on either side. -/
theorem step_upd {ρ : Rho} {σ : AW} {w w' : World} (h : WRel P mts ρ σ w) {r : Nat} {m : BM} (hr : ρ r = some m) (hro : m.ro = false)
    {ao : AObj} (hao : σ.heap.get r = some ao) (hne : ao ≠ .dead) (ao' : AObj) (o' : Obj)
    (hw : ∀ c, w'.heap[c]? = if c = m.c then some o' else w.heap[c]?) (hs : w'.heap.size = w.heap.size)
    (ht : w'.tape = w.tape) (hos : w'.os = w.os) (hout : w'.output = w.output)
    (hrel : ObjRel P mts ρ m (some o') ao')
    (hoth : ∀ b n an, b ≠ r → ρ b = some n → n.c = m.c → σ.heap.get b = some an → ObjRel P mts ρ n (some o') an) :
    Step P mts ρ σ w ρ (σ.upd r ao') w' := by
  have hd := h.dom r m hr
  refine { rel := ?_, le := .refl _, new := fun b n e e' => by simp [e] at e', own := fun b n e e' => by simp [e] at e', next := Nat.le_refl _, aframe := ?_, size := by omega, cframe := ?_, tape := ht, os := hos, out := hout }
  · refine { dom := ?_, obj := ?_, disj := ?_, fresh := ?_ }
    · intro b n e
      have := h.dom b n e
      rw [hs]; exact this
    · intro b n an e e'
      rw [upd_get] at e'
      rw [hw]
      by_cases hb : b = r
      · subst hb
        rw [hr] at e; cases e
        simp at e'; subst e'
        simpa using hrel
      · simp [hb] at e'
        by_cases hc : n.c = m.c
        · simp only [hc, if_true]; exact hoth b n an hb e hc e'
        · simp only [hc, if_false]; exact h.obj b n an e e'
    · intro b b' n n' e e' hbb hcc
      have hdead : ∀ x, Dead σ x → Dead (σ.upd r ao') x := by
        intro x hx
        unfold Dead at *
        rw [upd_get]
        by_cases hxr : x = r
        · subst hxr; rw [hao] at hx; simp at hx; exact absurd hx hne
        · simp [hxr, hx]
      rcases h.disj b b' n n' e e' hbb hcc with x | x | x | x
      · exact .inl x
      · exact .inr (.inl (hdead _ x))
      · exact .inr (.inr (.inl (hdead _ x)))
      · exact .inr (.inr (.inr x))
    · intro b hb
      rw [upd_get]
      have : b ≠ r := by have := hd.1; simp [AW.upd] at hb; omega
      simp [this]
      exact h.fresh b hb
  · intro b hb e
    rw [upd_get]
    have : b ≠ r := by intro hbr; subst hbr; rw [hr] at e; cases e
    simp [this]
  · intro c hc ho
    rw [hw]
    have : c ≠ m.c := by intro hcm; subst hcm; exact ho ⟨r, m, hr, rfl, hro⟩
    simp [this]

/-! ### Reading -/

theorem AdRel.cell {ρ : Rho} {σ : AW} {w : World} (h : WRel P mts ρ σ w) {a a' : Addr} (ha : AdRel ρ a a') {c : List Value} {el : TypeId} {z : Nat} {ro : Bool}
    (hg : σ.heap.get a.block = some (.cells c el z ro)) {i : Nat} {x : Value} (hx : c[a.off + i]? = some x) :
    ∃ y, w.cell? (a'.add i) = some y ∧ VRel ρ x y := by
  obtain ⟨_, m, hm, rfl⟩ := ha
  have ho := h.obj _ _ _ hm hg
  obtain ⟨_, _, arr, el', lo, hi, e, _, _, _, _, hc⟩ := ho
  obtain ⟨y, hy, hr⟩ := hc _ _ hx
  refine ⟨y, ?_, hr⟩
  have : (Addr.add ⟨m.c, m.base + a.off, none⟩ i) = ⟨m.c, m.base + a.off + i, none⟩ := by
    unfold Addr.add; split
    · simp_all
    · rfl
  rw [this]
  simp [World.cell?, e]
  rw [← hy]; congr 1; omega

theorem take?_spec : ∀ (n : Nat) (l cs : List Value), take? n l = some cs → cs.length = n ∧ ∀ i, i < n → cs[i]? = l[i]? := by
  intro n
  induction n with
  | zero => intro l cs h; simp [take?] at h; subst h; exact ⟨rfl, fun i hi => by omega⟩
  | succ n ih =>
    intro l cs h
    cases l with
    | nil => simp [take?] at h
    | cons x l =>
      simp only [take?, Option.map_eq_some_iff] at h
      obtain ⟨t, ht, rfl⟩ := h
      obtain ⟨h1, h2⟩ := ih l t ht
      refine ⟨by simp [h1], fun i hi => ?_⟩
      cases i with
      | zero => rfl
      | succ i => simpa using h2 i (by omega)

theorem loadN_spec {σ : AW} {a : Addr} {n : Nat} {cs : List Value} (h : σ.loadN a n = some cs) :
    a.spot = none ∧ ∃ c el z ro, σ.heap.get a.block = some (.cells c el z ro) ∧ cs.length = n ∧ ∀ i, i < n → cs[i]? = c[a.off + i]? := by
  unfold AW.loadN at h
  split at h
  · rename_i c el z ro hs hg
    obtain ⟨h1, h2⟩ := take?_spec _ _ _ h
    exact ⟨hs, c, el, z, ro, hg, h1, fun i hi => by rw [h2 i hi]; simp⟩
  · cases h

theorem run_loadCellsFrom {w : World} {a' : Addr} : ∀ (cs' : List Value) (i : Nat) (acc : Array Value),
    (∀ j y, cs'[j]? = some y → w.cell? (a'.add (i + j)) = some y) →
    (loadCellsFrom a' i cs'.length acc).run P w = .ok (acc ++ cs'.toArray) w := by
  intro cs'
  induction cs' with
  | nil => intro i acc _; simp [loadCellsFrom, pure, Sem.run]
  | cons y l ih =>
    intro i acc h
    have h0 := h 0 y rfl
    have := ih (i + 1) (acc.push y) (fun j z hz => by
      have := h (j + 1) z (by simpa using hz)
      rwa [show i + (j + 1) = i + 1 + j by omega] at this)
    simp only [List.length_cons, loadCellsFrom, load, bind, Sem.bind, Sem.run]
    simp only [Nat.add_zero] at h0
    rw [h0]
    simp only []
    change (loadCellsFrom a' (i + 1) l.length (acc.push y)).run P w = _
    rw [this]
    simp

/-- What is read of some cells. -/
theorem run_loadCells {ρ : Rho} {σ : AW} {w : World} (h : WRel P mts ρ σ w) {a a' : Addr} (ha : AdRel ρ a a') {n : Nat} {cs : List Value}
    (hl : σ.loadN a n = some cs) : ∃ cs' : Array Value, (loadCells a' n).run P w = .ok cs' w ∧ LRel ρ cs cs'.toList := by
  obtain ⟨hs, c, el, z, ro, hg, hn, hi⟩ := loadN_spec hl
  have key : ∃ cs' : List Value, LRel ρ cs cs' ∧ ∀ j y, cs'[j]? = some y → w.cell? (a'.add j) = some y := by
    have : ∀ (k : Nat), k ≤ n → ∃ cs' : List Value, LRel ρ (cs.take k) cs' ∧ ∀ j y, cs'[j]? = some y → w.cell? (a'.add j) = some y := by
      intro k
      induction k with
      | zero => intro _; exact ⟨[], by simpa using LRel.nil ρ, fun j y hy => by simp at hy⟩
      | succ k ih =>
        intro hk
        obtain ⟨cs', hr, hc⟩ := ih (by omega)
        have hlt : k < cs.length := by omega
        have hx : cs[k]? = some cs[k] := by simp [hlt]
        obtain ⟨y, hy, hry⟩ := ha.cell h hg (i := k) (x := cs[k]) (by rw [← hi k (by omega)]; exact hx)
        have hlen : cs'.length = k := by have := hr.1; simp at this; omega
        refine ⟨cs' ++ [y], ?_, ?_⟩
        · rw [List.take_add_one, hx]
          exact hr.append (.cons hry (.nil _))
        · intro j z hz
          by_cases hj : j < cs'.length
          · rw [List.getElem?_append_left hj] at hz; exact hc j z hz
          · rw [List.getElem?_append_right (by omega)] at hz
            have : j - cs'.length = 0 := by
              have := (List.getElem?_eq_some_iff.1 hz).1
              simp at this; omega
            rw [this] at hz; simp at hz; subst hz
            have : j = k := by omega
            subst this; exact hy
    obtain ⟨cs', hr, hc⟩ := this n (Nat.le_refl _)
    rw [← hn, List.take_length] at hr
    exact ⟨cs', hr, hc⟩
  obtain ⟨cs', hr, hc⟩ := key
  refine ⟨cs'.toArray, ?_, by simpa using hr⟩
  have hlen : cs'.length = n := by rw [← hr.1, hn]
  have := run_loadCellsFrom (P := P) (w := w) (a' := a') cs' 0 #[] (fun j y hy => by simpa using hc j y hy)
  unfold loadCells
  rw [← hlen, this]
  simp

/-! ### Writing -/

theorem run_store {w : World} {a : Addr} {v : Value} (hc : (w.cell? a).isSome) (hf : w.frozen? a = false) (hv : isCell v = true) :
    (store a v).run P w = .ok () (w.setCell a v) := by
  obtain ⟨y, hy⟩ := Option.isSome_iff_exists.1 hc
  unfold store
  cases v <;> first | (simp [isCell] at hv; done) | simp [Sem.run, hy, hf]

theorem splice_cons : ∀ (c : List Value) (o : Nat) (v : Value) (vs c' : List Value), splice c o (v :: vs) = some c' →
    o < c.length ∧ splice (c.set o v) (o + 1) vs = some c' := by
  intro c
  induction c with
  | nil => intro o v vs c' h; cases o <;> simp [splice] at h
  | cons x c ih =>
    intro o v vs c' h
    cases o with
    | zero =>
      simp only [splice, Option.map_eq_some_iff] at h
      obtain ⟨t, ht, rfl⟩ := h
      refine ⟨by simp, ?_⟩
      simp only [List.set_cons_zero]
      cases vs with
      | nil => simp only [splice, ht, Option.map_some]
      | cons u us => simp only [splice, ht, Option.map_some]
    | succ o =>
      simp only [splice, Option.map_eq_some_iff] at h
      obtain ⟨t, ht, rfl⟩ := h
      obtain ⟨h1, h2⟩ := ih o v vs t ht
      refine ⟨by simp; omega, ?_⟩
      simp only [List.set_cons_succ, splice, h2, Option.map_some]

theorem splice_nil : ∀ (c : List Value) (o : Nat) (c' : List Value), splice c o [] = some c' → c' = c := by
  intro c
  induction c with
  | nil => intro o c' h; cases o <;> simp [splice] at h <;> first | exact h | exact h.symm
  | cons x c ih =>
    intro o c' h
    cases o with
    | zero => simp [splice] at h; exact h.symm
    | succ o =>
      simp only [splice, Option.map_eq_some_iff] at h
      obtain ⟨t, ht, rfl⟩ := h
      rw [ih o t ht]

theorem upd_upd (σ : AW) (b : Nat) (x y : AObj) (b' : Nat) : ((σ.upd b x).upd b y).heap.get b' = (σ.upd b y).heap.get b' := by
  simp only [upd_get]; split <;> rfl

/-- Two abstract memories that read alike. -/
def Same (σ σ' : AW) : Prop := σ.next = σ'.next ∧ ∀ b, σ.heap.get b = σ'.heap.get b

theorem Same.refl (σ : AW) : Same σ σ := ⟨rfl, fun _ => rfl⟩
theorem Same.symm {σ σ' : AW} (h : Same σ σ') : Same σ' σ := ⟨h.1.symm, fun b => (h.2 b).symm⟩

theorem WRel.same {ρ : Rho} {σ σ' : AW} {w : World} (h : WRel P mts ρ σ w) (e : Same σ σ') : WRel P mts ρ σ' w where
  dom := fun b m hb => by rw [← e.1]; exact h.dom b m hb
  obj := fun b m ao hb hg => h.obj b m ao hb (by rw [e.2]; exact hg)
  disj := fun b b' m m' hb hb' hbb hc => by
    have := h.disj b b' m m' hb hb' hbb hc
    simpa only [Dead, e.2] using this
  fresh := fun b hb => by rw [← e.2]; exact h.fresh b (by rw [e.1]; exact hb)

theorem Step.same {ρ ρ' : Rho} {σ σ' σ'' : AW} {w w' : World} (h : Step P mts ρ σ w ρ' σ' w') (e : Same σ' σ'') : Step P mts ρ σ w ρ' σ'' w' :=
  { h with
    rel := h.rel.same e
    next := by rw [← e.1]; exact h.next
    aframe := fun b hb hn => by rw [← e.2]; exact h.aframe b hb hn }

/-- One cell written, on either side. -/
theorem step_setCell {ρ : Rho} {σ : AW} {w : World} (h : WRel P mts ρ σ w) {a a' : Addr} (ha : AdRel ρ a a') {c : List Value} {el : TypeId} {z : Nat}
    (hg : σ.heap.get a.block = some (.cells c el z false)) {o : Nat} (ho : a.off + o < c.length) {v v' : Value} (hv : VRel ρ v v') :
    (w.cell? (a'.add o)).isSome ∧ w.frozen? (a'.add o) = false ∧
    Step P mts ρ σ w ρ (σ.upd a.block (.cells (c.set (a.off + o) v) el z false)) (w.setCell (a'.add o) v') := by
  obtain ⟨y0, hy0, _⟩ := ha.cell h hg (i := o) (x := c[a.off + o]) (by simp [ho])
  obtain ⟨hsp, m, hm, rfl⟩ := ha
  have hob := h.obj _ _ _ hm hg
  obtain ⟨hz, hro, arr, el', lo, hi, e, hsz, hlen, hle, hfz, hc⟩ := hob
  have hadd : (Addr.add ⟨m.c, m.base + a.off, none⟩ o) = ⟨m.c, m.base + a.off + o, none⟩ := by
    unfold Addr.add; split
    · simp_all
    · rfl
  rw [hadd] at hy0 ⊢
  have hfree : ¬ (lo ≤ m.base + a.off + o ∧ m.base + a.off + o < hi) := hfz _ (by omega) (by omega)
  refine ⟨by simp [hy0], ?_, ?_⟩
  · simp only [World.frozen?, e]
    rw [Bool.eq_false_iff]
    intro hh
    simp only [Bool.and_eq_true, decide_eq_true_eq] at hh
    exact hfree hh
  · have hcell : ∀ i x, (c.set (a.off + o) v)[i]? = some x → ∃ y, (arr.setIfInBounds (m.base + a.off + o) v')[m.base + i]? = some y ∧ VRel ρ x y := by
      intro i x hx
      by_cases hi : i = a.off + o
      · subst hi
        rw [List.getElem?_set_self ho] at hx
        cases hx
        refine ⟨v', ?_, hv⟩
        rw [show m.base + a.off + o = m.base + (a.off + o) by omega, Array.getElem?_setIfInBounds_self_of_lt (by omega)]
      · rw [List.getElem?_set_ne (by omega)] at hx
        obtain ⟨y, hy, hr⟩ := hc i x hx
        exact ⟨y, by rw [Array.getElem?_setIfInBounds_ne (by omega)]; exact hy, hr⟩
    refine step_upd h hm hro hg (by simp) _ (.cells (arr.setIfInBounds (m.base + a.off + o) v') el' (lo, hi)) ?_ ?_ rfl rfl rfl ?_ ?_
    · intro cc
      simp only [World.setCell]
      rw [Array.getElem?_modify]
      by_cases hcc : cc = m.c
      · subst hcc; simp [e]
      · rw [if_neg (fun hh => hcc hh.symm)]; simp [hcc]
    · simp [World.setCell]
    · refine ⟨hz, hro, _, el', lo, hi, rfl, by simpa using hsz, by simpa using hlen, hle, hfz, hcell⟩
    · intro b n an hb hn hnc hgb
      have hob := h.obj _ _ _ hn hgb
      rw [hnc, e] at hob
      cases an with
      | cells cs2 el2 z2 ro2 =>
        obtain ⟨hz2, hro2, arr2, el2', lo2, hi2, e2, hsz2, hlen2, hle2, hfz2, hc2⟩ := hob
        cases e2
        refine ⟨hz2, hro2, _, el', lo, hi, rfl, by simpa using hsz2, hlen2, hle2, hfz2, ?_⟩
        intro i x hx
        obtain ⟨y, hy, hr⟩ := hc2 i x hx
        have hi2 : i < cs2.length := (List.getElem?_eq_some_iff.1 hx).1
        refine ⟨y, ?_, hr⟩
        rw [Array.getElem?_setIfInBounds_ne ?_]; exact hy
        rcases h.disj b a.block n m hn hm hb hnc with x | x | x | x
        · rw [hro] at x; exact absurd x.2 (by simp)
        · simp [Dead, hgb] at x
        · simp [Dead, hg] at x
        · rcases x.2.2 with x | x <;> omega
      | map es ck => obtain ⟨_, _, _, es', e2, _⟩ := hob; cases e2
      | loop L => obtain ⟨_, _, _, l, e2, _⟩ := hob; cases e2
      | dead => exact hob

/-- Some cells written, on either side. -/
theorem run_storeCells {ρ : Rho} {a a' : Addr} (ha : AdRel ρ a a') (el : TypeId) (z : Nat) : ∀ (vs vs' : List Value) (o : Nat) {σ : AW} {w : World} (c c' : List Value),
    WRel P mts ρ σ w → σ.heap.get a.block = some (.cells c el z false) → LRel ρ vs vs' → vs.all isCell = true → splice c (a.off + o) vs = some c' →
    ∃ w', (storeCells a' vs' o).run P w = .ok () w' ∧ Step P mts ρ σ w ρ (σ.upd a.block (.cells c' el z false)) w' := by
  intro vs
  induction vs with
  | nil =>
    intro vs' o σ w c c' h hg hl _ hs
    have : vs' = [] := List.eq_nil_of_length_eq_zero hl.1.symm
    subst this
    have := splice_nil _ _ _ hs
    subst this
    refine ⟨w, by simp [storeCells, pure, Sem.run], (Step.refl h).same ⟨rfl, fun b => ?_⟩⟩
    rw [upd_get]; split
    · rename_i hb; subst hb; exact hg
    · rfl
  | cons v vs ih =>
    intro vs' o σ w c c' h hg hl hcell hs
    obtain ⟨v', us, rfl, hv, hu⟩ := hl.uncons
    simp only [List.all_cons, Bool.and_eq_true] at hcell
    obtain ⟨ho, hs'⟩ := splice_cons _ _ _ _ _ hs
    obtain ⟨h1, h2, st⟩ := step_setCell h ha hg ho hv
    obtain ⟨w', hrun, st'⟩ := ih us (o + 1) _ c' st.rel (by rw [upd_get]; simp) hu hcell.2 hs'
    refine ⟨w', ?_, (st.trans st').same ⟨rfl, fun b => upd_upd _ _ _ _ _⟩⟩
    have hv' : isCell v' = true := by rw [← isCell_rel hv]; exact hcell.1
    have hst := run_store (P := P) h1 h2 hv'
    unfold store at hst
    simp only [storeCells, store, bind, Sem.bind]
    obtain ⟨y, hy⟩ := Option.isSome_iff_exists.1 h1
    cases v' <;> first | (simp [isCell] at hv'; done) | (simp only [Sem.run, hy, h2]; simpa using hrun)

theorem storeN_spec {σ σ' : AW} {a : Addr} {vs : List Value} (h : σ.storeN a vs = some σ') :
    a.spot = none ∧ ∃ c el z c', σ.heap.get a.block = some (.cells c el z false) ∧ vs.all isCell = true ∧ splice c a.off vs = some c' ∧ σ' = σ.upd a.block (.cells c' el z false) := by
  unfold AW.storeN at h
  split at h
  · rename_i c el z hs hg
    cases hb : vs.all isCell with
    | false => rw [hb] at h; simp at h
    | true =>
      rw [hb] at h
      simp only [cond_true, Option.map_eq_some_iff] at h
      obtain ⟨c', hc, rfl⟩ := h
      exact ⟨hs, c, el, z, c', hg, rfl, hc, rfl⟩
  · cases h

theorem run_storeN {ρ : Rho} {σ σ' : AW} {w : World} (h : WRel P mts ρ σ w) {a a' : Addr} (ha : AdRel ρ a a') {vs vs' : List Value} (hl : LRel ρ vs vs')
    (hs : σ.storeN a vs = some σ') : ∃ w', (storeCells a' vs').run P w = .ok () w' ∧ Step P mts ρ σ w ρ σ' w' := by
  obtain ⟨_, c, el, z, c', hg, hall, hsp, rfl⟩ := storeN_spec hs
  exact run_storeCells ha el z vs vs' 0 c c' h hg hl hall (by simpa using hsp)

end
end Go.AM
