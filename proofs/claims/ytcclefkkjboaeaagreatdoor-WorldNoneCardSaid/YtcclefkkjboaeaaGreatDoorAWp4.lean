/- What a run of the abstract machine comes to: a table's functions; small memories. -/
import Derived.Test.YtcclefkkjboaeaaGreatDoorAWp3
import Derived.Test.YtcclefkkjboaeaaGreatDoorAData

namespace Go.AM
open Go

theorem closed_of {l : List (Nat × AFunc)} (h : (l.all fun p => codeC p.2.body) = true) {t : T AFunc} (e : t = mkT l) : Closed (fun f => t.get f) := by
  subst e
  induction l with
  | nil => intro f af h; cases h
  | cons p l ih =>
    obtain ⟨i, a⟩ := p
    simp only [List.all_cons, Bool.and_eq_true] at h
    intro f af hf
    simp only [mkT, T.get_set] at hf
    by_cases e : f = i
    · subst e; simp at hf; subst hf; exact h.1
    · simp only [e, if_false] at hf; exact ih h.2 f af hf

/-- A memory of one closed block stands wherever that block is the first. -/
theorem emb_glob {cs : List Value} {t : TypeId} {ro : Bool} (hcs : cs.all scalarOk = true) {σ : AW} (hw : WfH σ) (hg : σ.heap.get 0 = some (.cells cs t 0 ro)) :
    Emb (fun b => if b = 0 then 0 else b - 1 + σ.next) { heap := .node (some (.cells cs t 0 ro)) .leaf .leaf, next := 1 } σ := by
  have hp : 0 < σ.next := hw.lt 0 _ hg
  have get : ∀ b o, (T.node (some (AObj.cells cs t 0 ro)) .leaf .leaf).get b = some o → b = 0 ∧ o = .cells cs t 0 ro := by
    intro b o h
    cases b with
    | zero => simp [T.get] at h; exact ⟨rfl, h.symm⟩
    | succ m => simp [T.get] at h
  refine ⟨fun b hb => ?_, fun k => ?_, fun b o h => ?_, fun b b' o o' h h' _ => ?_, fun b o h => ?_⟩
  · cases b with
    | zero => simp at hb
    | succ m => simp [T.get]
  · show (if 1 + k = 0 then 0 else 1 + k - 1 + σ.next) = _
    rw [if_neg (by omega)]; omega
  · obtain ⟨rfl, rfl⟩ := get b o h
    simp only [if_true, renO, scalars_ren _ hcs]; exact hg
  · rw [(get b o h).1, (get b' o' h').1]
  · obtain ⟨rfl, rfl⟩ := get b o h
    simpa using hp

/-- A memory of two closed blocks. -/
theorem emb_glob2 {cs zs : List Value} {t t' : TypeId} {ro : Bool} (hcs : cs.all scalarOk = true) (hzs : zs.all scalarOk = true) {σ : AW} (hw : WfH σ) (hg : σ.heap.get 0 = some (.cells cs t 0 ro)) {bE : Nat} (hb0 : bE ≠ 0) (hE : σ.heap.get bE = some (.cells zs t' 0 false)) :
    Emb (fun b => if b = 0 then 0 else if b = 1 then bE else b - 2 + σ.next) { heap := .node (some (.cells cs t 0 ro)) (.node (some (.cells zs t' 0 false)) .leaf .leaf) .leaf, next := 2 } σ := by
  have hp : 0 < σ.next := hw.lt 0 _ hg
  have hp2 : bE < σ.next := hw.lt bE _ hE
  have get : ∀ b o, (T.node (some (AObj.cells cs t 0 ro)) (.node (some (.cells zs t' 0 false)) .leaf .leaf) .leaf).get b = some o → (b = 0 ∧ o = .cells cs t 0 ro) ∨ (b = 1 ∧ o = .cells zs t' 0 false) := by
    intro b o h
    match b with
    | 0 => simp [T.get] at h; exact .inl ⟨rfl, h.symm⟩
    | 1 => simp [T.get] at h; exact .inr ⟨rfl, h.symm⟩
    | m + 2 =>
      simp only [T.get] at h
      cases hb : Nat.beq ((m + 1) % 2) 0
      · rw [hb] at h; simp at h
      · rw [hb] at h
        have : (m + 1) / 2 ≠ 0 := by
          have := Nat.eq_of_beq_eq_true hb; omega
        obtain ⟨j, hj⟩ := Nat.exists_eq_succ_of_ne_zero this
        rw [hj] at h; simp [T.get] at h
  refine ⟨fun b hb => ?_, fun k => ?_, fun b o h => ?_, fun b b' o o' h h' e => ?_, fun b o h => ?_⟩
  · cases hh : (T.node (some (AObj.cells cs t 0 ro)) (.node (some (.cells zs t' 0 false)) .leaf .leaf) .leaf).get b with
    | none => rfl
    | some o => rcases get b o hh with ⟨rfl, _⟩ | ⟨rfl, _⟩ <;> simp at hb
  · show (if 2 + k = 0 then 0 else if 2 + k = 1 then bE else 2 + k - 2 + σ.next) = _
    rw [if_neg (by omega), if_neg (by omega)]; omega
  · rcases get b o h with ⟨rfl, rfl⟩ | ⟨rfl, rfl⟩
    · simp only [if_true, renO, scalars_ren _ hcs]; exact hg
    · simp only [renO, scalars_ren _ hzs]; simpa using hE
  · rcases get b o h with ⟨rfl, rfl⟩ | ⟨rfl, rfl⟩ <;> rcases get b' o' h' with ⟨rfl, rfl⟩ | ⟨rfl, rfl⟩
    · rfl
    · simp at e; omega
    · simp at e; omega
    · rfl
  · rcases get b o h with ⟨rfl, rfl⟩ | ⟨rfl, rfl⟩
    · simpa using hp
    · simpa using hp2

def addS (s : Nat → Nat) (nx c n : Nat) (b : Nat) : Nat := if b < nx then s b else if b = nx then c else b - nx - 1 + n

/-- A memory of one closed block more. -/
theorem Emb.add {s : Nat → Nat} {σc σ : AW} (hs : Emb s σc σ) (hw : WfH σc) {cs : List Value} {t : TypeId} {z : Nat} {ro : Bool} {c : Nat} (hcs : cs.all scalarOk = true) (hlt : c < σ.next) (hc : σ.heap.get c = some (.cells cs t z ro))
    (hn : ∀ b o, σc.heap.get b = some o → s b ≠ c) : Emb (addS s σc.next c σ.next) (σc.push (.cells cs t z ro)) σ := by
  have e0 : ∀ b, b < σc.next → addS s σc.next c σ.next b = s b := fun b hb => by simp [addS, hb]
  have e1 : addS s σc.next c σ.next σc.next = c := by simp [addS]
  refine ⟨fun b hb => ?_, fun k => ?_, fun b o h => ?_, fun b b' o o' h h' e => ?_, fun b o h => ?_⟩
  · rw [h_push_next] at hb
    rw [h_push_get, if_neg (by omega)]; exact hs.fresh b (by omega)
  · show (if σc.next + 1 + k < σc.next then _ else if σc.next + 1 + k = σc.next then c else σc.next + 1 + k - σc.next - 1 + σ.next) = _
    rw [if_neg (by omega), if_neg (by omega)]; omega
  · rw [h_push_get] at h
    split at h
    · rename_i e; subst e; cases h
      rw [e1]; simp only [renO, scalars_ren _ hcs]; exact hc
    · have hlt := hw.lt b o h
      rw [e0 b hlt, hs.get b o h, (hw.obj b o h).agree (fun b hb => (e0 b hb).symm)]
  · rw [h_push_get] at h h'
    split at h <;> split at h'
    · omega
    · rename_i a1 a2; subst a1
      rw [e1, e0 b' (hw.lt b' o' h')] at e; exact absurd e.symm (hn b' o' h')
    · rename_i a1 a2; subst a2
      rw [e1, e0 b (hw.lt b o h)] at e; exact absurd e (hn b o h)
    · rw [e0 b (hw.lt b o h), e0 b' (hw.lt b' o' h')] at e; exact hs.inj b b' o o' h h' e
  · rw [h_push_get] at h
    split at h
    · rename_i a; subst a; rw [e1]; exact hlt
    · rw [e0 b (hw.lt b o h)]; exact hs.lt b o h

end Go.AM
