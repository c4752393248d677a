/- Each operation but calls, one by one: arithmetic, comparisons, and the rest. -/
import Derived.Test.YtcclefkkjboaeaaGreatDoorAOps2

namespace Go.AM
open Go

section
variable {P : Program} {mts : List TypeId} {ρ : Rho} {σ : AW} {w : World}

theorem eqGuard_ok {op : BinOp} {t : TypeId} {x y : Operand} {u v : Value} (hu : ∀ cs, u ≠ .agg cs) (hn : u ≠ .nilIface) : eqGuard op t x y u v = pure () := by
  cases u <;> first | (cases op <;> rfl) | (exact absurd rfl (hu _)) | (exact absurd rfl hn)

theorem run_binOp_int {op : BinOp} {t : TypeId} {k k' : IntKind} {a b : Int} {eq : EqT} {cx : Bool} {v : Value} (h : aBin op eq cx (.int k a) (.int k' b) = some v) (w : World) :
    (binOp op t (.int k a) (.int k' b)).run P w = .ok v w ∧ VRel ρ v v := by
  simp only [aBin] at h
  split at h
  · have e := pureOf_eq h
    obtain ⟨n, rfl⟩ := shift_int e
    exact ⟨by simp [binOp, e], .int _ _⟩
  · have e := pureOf_eq h
    obtain ⟨n, rfl⟩ := shift_int e
    exact ⟨by simp [binOp, e], .int _ _⟩
  all_goals
    split at h
    · rename_i hk
      subst hk
      have e := pureOf_eq h
      first
        | (obtain ⟨n, rfl⟩ := arith_int e; exact ⟨by simp [binOp, e], .int _ _⟩)
        | (obtain ⟨n, rfl⟩ := div_int e; exact ⟨by simp [binOp, e], .int _ _⟩)
        | (obtain ⟨n, rfl⟩ := bits_int e; exact ⟨by simp [binOp, e], .int _ _⟩)
        | (obtain ⟨n, rfl⟩ := cmp_bool e
           refine ⟨?_, .bool _⟩
           cases op <;> first | (simp_all [binOp]; done) | (simp [Op.intCmp, stuck] at e; done))
    · cases h

theorem run_binOp_string {op : BinOp} {t : TypeId} {a b : ByteArray} {eq : EqT} {cx : Bool} {v : Value} (h : aBin op eq cx (.string a) (.string b) = some v) (w : World) :
    (binOp op t (.string a) (.string b)).run P w = .ok v w ∧ VRel ρ v v := by
  simp only [aBin] at h
  have e := pureOf_eq h
  have hv : VRel ρ v v := by
    rcases string_flat e with ⟨n, rfl⟩ | ⟨s, rfl⟩
    · exact .bool _
    · exact .string _
  refine ⟨?_, hv⟩
  cases op <;> simp [binOp, e]

theorem cellsEq_rel : ∀ (ks : List PK) (l l' m m' : List Value) (b : Bool), cellsEq ks l m = some b → LRel ρ l l' → LRel ρ m m' → cellsEq ks l' m' = some b := by
  intro ks
  induction ks with
  | nil =>
    intro l l' m m' b h hl hm
    cases l <;> cases m <;> simp [cellsEq] at h
    have e1 : l' = [] := List.eq_nil_of_length_eq_zero hl.1.symm
    have e2 : m' = [] := List.eq_nil_of_length_eq_zero hm.1.symm
    subst e1 e2; subst h; rfl
  | cons k ks ih =>
    intro l l' m m' b h hl hm
    obtain ⟨x, xs, y, ys, rfl, rfl, h1, h2, h3⟩ := cellsEq_cons h
    obtain ⟨x', xs', rfl, hx, hxs⟩ := hl.uncons
    obtain ⟨y', ys', rfl, hy, hys⟩ := hm.uncons
    have hlen : cellsEq.lenAre ks xs' ys' = true := lenAre_mk _ _ _ (by rw [← hxs.1]; exact h1) (by rw [← hys.1]; exact h2)
    rcases h3 with ⟨he, hc⟩ | ⟨he, rfl⟩
    · obtain ⟨rfl, rfl⟩ := primEq_rel hx hy he
      simp only [cellsEq, he, hlen, cond_true]
      exact ih _ _ _ _ _ hc hxs hys
    · obtain ⟨rfl, rfl⟩ := primEq_rel hx hy he
      simp only [cellsEq, he, hlen, cond_true]

theorem aEq_rel {eq : EqT} {cx : Bool} {x y x' y' : Value} {b : Bool} (hx : VRel ρ x x') (hy : VRel ρ y y') (h : aEq eq cx x y = some b) : aEq eq cx x' y' = some b := by
  cases eq with
  | prim k => obtain ⟨rfl, rfl⟩ := primEq_rel hx hy h; exact h
  | ptr =>
    cases hx <;> cases hy <;> first | exact h | (simp [aEq] at h; done) | (simpa [aEq] using h)
  | slice =>
    cases hx <;> cases hy <;> first | exact h | (simp [aEq] at h; done) | (simpa [aEq] using h)
  | iface =>
    cases hx <;> cases hy <;> first | exact h | (simp [aEq] at h; done) | (simpa [aEq] using h)
  | agg ks =>
    cases hx <;> try (simp [aEq] at h; done)
    cases hy <;> try (simp [aEq] at h; done)
    rename_i a a' hs ha c c' hs' hc
    simp only [aEq] at h ⊢
    exact cellsEq_rel _ _ _ _ _ _ h (.of_arrays hs ha) (.of_arrays hs' hc)

theorem run_equal {t : TypeId} {eq : EqT} (ht : eqT P t = some eq) {cx : Bool} {x y : Value} {b : Bool} (h : aEq eq cx x y = some b) (w : World) :
    (Op.equal t x y).run P w = .ok b w := by
  unfold eqT at ht
  unfold Op.equal
  obtain ⟨n, hn, hn8⟩ : ∃ n, Op.maxDepth = n + 1 ∧ 8 ≤ n := ⟨9999, rfl, by omega⟩
  rw [hn]
  clear hn
  split at ht
  · rename_i hu; cases ht
    exact run_equalIn_prim hu rfl h _ w
  · rename_i k hu; cases ht
    exact run_equalIn_prim hu rfl h _ w
  · rename_i hu; cases ht
    exact run_equalIn_prim hu rfl h _ w
  · rename_i e hu; cases ht
    simp only [aEq] at h
    split at h
    · cases h; simp [Op.equalIn, run_underlying hu]
    · cases h; simp [Op.equalIn, run_underlying hu]
    · cases h
  · rename_i e hu; cases ht
    simp only [aEq] at h
    split at h
    · cases h; simp [Op.equalIn, run_underlying hu]
    · cases h; simp [Op.equalIn, run_underlying hu]
    · cases h
  · rename_i ms hu; cases ht
    simp only [aEq] at h
    split at h
    · cases cx <;> simp at h; subst h; simp [Op.equalIn, run_underlying hu]
    · cases h; simp [Op.equalIn, run_underlying hu]
    · cases h; simp [Op.equalIn, run_underlying hu]
    · cases h
  · rename_i fs hu
    cases hg : P.eqGuardType P.depth t with
    | true => rw [hg] at ht; simp at ht
    | false =>
      rw [hg] at ht
      simp only [Bool.not_false, cond_true, Option.map_eq_some_iff] at ht
      obtain ⟨ks, hks, rfl⟩ := ht
      simp only [aEq] at h
      split at h
      · rename_i xs ys
        exact run_flat 8 t ks hks _ xs ys b w (by omega) h
      · cases h
  · cases ht

theorem run_guard {op : BinOp} {t : TypeId} {eq : EqT} (ht : eqT P t = some eq) {x y : Operand} {u v : Value} {b : Bool} (h : aEq eq (isConst x || isConst y) u v = some b) (w : World) :
    (eqGuard op t x y u v).run P w = .ok () w := by
  by_cases ha : ∃ cs, u = .agg cs
  · obtain ⟨cs, rfl⟩ := ha
    cases eq with
    | agg ks =>
      simp only [aEq] at h
      split at h
      · rename_i xs ys e _
        cases e
        refine run_eqGuard_agg w op t x y _ _ ?_
        unfold eqT at ht
        split at ht <;> try (cases ht; done)
        cases hg : P.eqGuardType P.depth t with
        | true => rw [hg] at ht; simp at ht
        | false => rfl
      · cases h
    | prim k => cases k <;> simp [aEq, primEq] at h
    | _ => simp [aEq] at h
  · by_cases hn : u = .nilIface
    · subst hn
      cases eq with
      | iface =>
        cases v <;> simp only [aEq] at h <;> try (cases h; done)
        · cases op <;> rfl
        · cases hc : (isConst x || isConst y) with
          | false => rw [hc] at h; simp at h
          | true =>
            cases x <;> cases y <;> simp [isConst] at hc <;> (cases op <;> rfl)
      | prim k => cases k <;> simp [aEq, primEq] at h
      | _ => simp [aEq] at h
    · rw [eqGuard_ok (fun cs e => ha ⟨cs, e⟩) hn]; rfl

theorem run_binOp_eq {op : BinOp} {t : TypeId} {eq : EqT} (ht : eqT P t = some eq) {cx : Bool} {x y : Value} {v : Value}
    (hni : ∀ k a k' b, x = .int k a → y ≠ .int k' b) (hns : ∀ a b, x = .string a → y ≠ .string b)
    (h : aCmp op (aEq eq cx x y) = some v) (w : World) : (binOp op t x y).run P w = .ok v w ∧ VRel ρ v v := by
  unfold aCmp at h
  split at h
  · rename_i b he
    cases h
    refine ⟨?_, .bool _⟩
    have hr := run_equal ht he w
    have : binOp .eql t x y = (do pure (.bool (← Op.equal t x y))) := by
      cases x <;> cases y <;> first | rfl | (exact absurd rfl (hni _ _ _ _ rfl)) | (exact absurd rfl (hns _ _ rfl)) | skip
      all_goals
        cases eq <;> simp [aEq, primEq] at he
        all_goals (rename_i k; cases k <;> simp [primEq] at he)
    rw [this]; simp [hr]
  · rename_i b he
    cases h
    refine ⟨?_, .bool _⟩
    have hr := run_equal ht he w
    have : binOp .neq t x y = (do pure (.bool (!(← Op.equal t x y)))) := by
      cases x <;> cases y <;> first | rfl | (exact absurd rfl (hni _ _ _ _ rfl)) | (exact absurd rfl (hns _ _ rfl)) | skip
      all_goals
        cases eq <;> simp [aEq, primEq] at he
        all_goals (rename_i k; cases k <;> simp [primEq] at he)
    rw [this]; simp [hr]
  · cases h

end
end Go.AM
