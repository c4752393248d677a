/- Each operation but calls, one by one: slices, fields, indexes, maps, built-in functions. -/
import Derived.Test.YtcclefkkjboaeaaGreatDoorAOps4

namespace Go.AM
open Go

section
variable {P : Program} {mts : List TypeId} {ρ : Rho} {σ : AW} {w : World}

theorem bound_run {ev ev' : Operand → Value} {x : Operand} (hx : VRel ρ (ev x) (ev' x)) {d most most' r : Nat} (h : aBound (some (ev x)) d most = some r) (hm : most ≤ most')
    (code : BoundsCode) (w : World) : (Instr.sliceBound (ev' x) most' code).run P w = .ok r w ∧ r ≤ most := by
  generalize ev x = u at hx h
  generalize ev' x = u' at hx ⊢
  unfold aBound at h
  split at h
  · rename_i e; cases e
  · rename_i k i e
    cases e
    split at h
    · rename_i hb
      cases h
      cases hx
      refine ⟨?_, by omega⟩
      simp only [Instr.sliceBound, asIntOf, Sem.run_bind, Sem.run_pure, Result.andThen_ok]
      rw [if_pos (by omega)]
      rfl
    · cases h
  · cases h

/-- The upper bound that the model takes. -/
def upper (mx : Option Operand) (m cap' : Nat) : Nat := match mx with | some _ => m | none => cap'

theorem bounds_run {ev ev' : Operand → Value} {lo hi mx : Option Operand} (hlo : ∀ x ∈ lo, VRel ρ (ev x) (ev' x)) (hhi : ∀ x ∈ hi, VRel ρ (ev x) (ev' x)) (hmx : ∀ x ∈ mx, VRel ρ (ev x) (ev' x))
    {len cap cap' l h m : Nat} (hb : aBounds len cap (lo.map ev) (hi.map ev) (mx.map ev) = some (l, h, m)) (hlc : len ≤ cap) (hc : cap ≤ cap') (isS : Bool) (w : World) :
    (Instr.sliceBounds isS len cap' (lo.map ev') (hi.map ev') (mx.map ev')).run P w = .ok (l, h, upper mx m cap') w ∧ l ≤ h ∧ h ≤ m ∧ m ≤ cap ∧ (mx = none → m = cap) := by
  unfold aBounds at hb
  split at hb
  · cases hb
  · rename_i m1 hm1
    split at hb
    · cases hb
    · rename_i h1 hh1
      split at hb
      · cases hb
      · rename_i l1 hl1
        simp only [Option.some.injEq, Prod.mk.injEq] at hb
        obtain ⟨rfl, rfl, rfl⟩ := hb
        -- the lower bound
        have hl : ∀ code, (match lo.map ev' with | some v => Instr.sliceBound v h1 code | none => pure 0 : Sem Nat).run P w = .ok l1 w ∧ l1 ≤ h1 := by
          intro code
          cases lo with
          | none => simp [aBound] at hl1; subst hl1; simp
          | some x => exact bound_run (hlo x rfl) hl1 (Nat.le_refl _) code w
        cases mx with
        | some y =>
          obtain ⟨r1, b1⟩ := bound_run (P := P) (hmx y rfl) hm1 hc (if isS then .slice3Acap else .slice3Alen) w
          cases hi with
          | none => simp at hh1
          | some z =>
            obtain ⟨r2, b2⟩ := bound_run (P := P) (hhi z rfl) hh1 (Nat.le_refl _) .slice3B w
            obtain ⟨r3, b3⟩ := hl .slice3C
            refine ⟨?_, b3, b2, b1, by simp⟩
            simp only [Instr.sliceBounds, Option.map_some, Sem.run_bind, r1, r2, Result.andThen_ok, upper]
            simp only [Option.isSome_some, if_true]
            cases lo with
            | none => simp [aBound] at hl1; subst hl1; simp
            | some x =>
              simp only [Option.map_some] at r3 ⊢
              simp only [Sem.run_bind, r3, Result.andThen_ok]
              simp
        | none =>
          simp [aBound] at hm1
          subst hm1
          obtain ⟨r3, b3⟩ := hl .sliceB
          cases hi with
          | none =>
            simp [aBound] at hh1
            subst hh1
            refine ⟨?_, b3, hlc, Nat.le_refl _, fun _ => rfl⟩
            simp only [Instr.sliceBounds, Option.map_none, Sem.run_bind, Sem.run_pure, Result.andThen_ok, upper]
            cases lo with
            | none => simp [aBound] at hl1; subst hl1; simp
            | some x =>
              simp only [Option.map_some] at r3 ⊢
              simp [r3]
          | some z =>
            obtain ⟨r2, b2⟩ := bound_run (P := P) (hhi z rfl) hh1 hc (if isS then .sliceAcap else .sliceAlen) w
            refine ⟨?_, b3, b2, Nat.le_refl _, fun _ => rfl⟩
            simp only [Instr.sliceBounds, Option.map_none, Option.map_some, Sem.run_bind, Sem.run_pure, Result.andThen_ok, upper, r2]
            cases lo with
            | none => simp [aBound] at hl1; subst hl1; simp
            | some x =>
              simp only [Option.map_some] at r3 ⊢
              simp [r3]

theorem sim_slice (h : WRel P mts ρ σ w) {ev ev' : Operand → Value} {t : TypeId} {x : Operand} {lo hi mx : Option Operand} {ao : AOp}
    (hc : compOp0 P mts (.slice t x lo hi mx) = some ao) (hx : VRel ρ (ev x) (ev' x)) (hlo : ∀ x ∈ lo, VRel ρ (ev x) (ev' x)) (hhi : ∀ x ∈ hi, VRel ρ (ev x) (ev' x)) (hmx : ∀ x ∈ mx, VRel ρ (ev x) (ev' x))
    {v : Value} {σ' : AW} (hr : aop ev ao σ = some (v, σ')) :
    Sim P mts ρ σ w (valOf (Instr.sliceAt t (ev' x) (lo.map ev') (hi.map ev') (mx.map ev'))) v σ' := by
  unfold compOp0 at hc
  simp only at hc
  split at hc
  · -- a string
    rename_i hu
    cases hc
    simp only [aop, Option.map_eq_some_iff] at hr
    obtain ⟨v1, hr, he1⟩ := hr
    cases he1
    unfold aSliceStr at hr
    split at hr
    · rename_i s es
      split at hr
      · rename_i l hh m hmn hb
        cases hr
        rw [es] at hx
        generalize ev' x = u at hx ⊢
        cases hx
        have hmx0 : mx = none := by cases mx with | none => rfl | some y => simp at hmn
        subst hmx0
        obtain ⟨hrun, _⟩ := bounds_run (P := P) (mx := none) hlo hhi (by simp) hb (Nat.le_refl _) (Nat.le_refl _) false w
        refine Sim.value (v' := .string (s.extract l hh)) ?_ (.string _) (.refl h)
        simp only [Option.map_none] at hrun
        simp [Instr.sliceAt, Instr.slice, run_underlying hu, hrun]
      · cases hr
    · cases hr
  · -- a slice
    rename_i e hu
    simp only [Option.map_eq_some_iff] at hc
    obtain ⟨esz, hs, rfl⟩ := hc
    simp only [aop, Option.map_eq_some_iff] at hr
    obtain ⟨v1, hr, he1⟩ := hr
    cases he1
    unfold aSliceSl at hr
    split at hr
    · rename_i a len cap es
      split at hr
      rotate_left
      · cases hr
      rename_i l hh m hb
      rw [es] at hx
      generalize ev' x = u at hx ⊢
      -- what the model gives
      have main : ∀ (a' : Option Addr) (cap' : Nat), len ≤ cap → cap ≤ cap' → u = .slice a' len cap' →
          (Instr.sliceAt t u (lo.map ev') (hi.map ev') (mx.map ev')).run P w =
            .ok (.slice (if upper mx m cap' = l then a' else a'.map (·.add (l * esz))) (hh - l) (upper mx m cap' - l)) w ∧ l ≤ hh ∧ hh ≤ m ∧ m ≤ cap ∧ (mx = none → m = cap) := by
        intro a' cap' h1 h2 e1
        subst e1
        obtain ⟨hrun, hbd⟩ := bounds_run (P := P) hlo hhi hmx hb h1 h2 true w
        refine ⟨?_, hbd⟩
        simp [Instr.sliceAt, Instr.slice, run_underlying hu, hrun, run_sizeT hs]
      cases hcap : Nat.beq cap 0 with
      | true =>
        have hc0 := Nat.eq_of_beq_eq_true hcap
        rw [hcap] at hr
        simp only [cond_true, Option.some.injEq] at hr
        subst hr
        subst hc0
        cases hx with
        | sliceNil =>
          obtain ⟨hrun, b1, b2, b3, _⟩ := main none 0 (Nat.le_refl _) (Nat.le_refl _) rfl
          refine Sim.value hrun ?_ (.refl h)
          have hm0 : upper mx m 0 = 0 := by cases mx <;> simp [upper]; omega
          have hl0 : l = 0 := by omega
          have hh0 : hh = 0 := by omega
          subst hl0 hh0
          rw [hm0]; exact .sliceNil
        | slice a a' n c c' had hn hcr =>
          have hn0 : len = 0 := by omega
          subst hn0
          have hcc : 0 ≤ c' := Nat.zero_le _
          obtain ⟨hrun, b1, b2, b3, _⟩ := main (some a') c' (Nat.le_refl _) hcc rfl
          refine Sim.value hrun ?_ (.refl h)
          have hl0 : l = 0 := by omega
          have hh0 : hh = 0 := by omega
          have hm0 : m = 0 := by omega
          subst hl0 hh0 hm0
          cases mx with
          | some y => simp only [upper, if_true]; obtain ⟨_, mm, hmm, _⟩ := had; exact .slice0 _ _ mm hmm
          | none =>
            simp only [upper, Nat.zero_mul, Option.map_some, add_zero_ad, Nat.sub_zero, ite_self]
            exact .slice _ _ _ _ _ had hn hcr
        | slice0 a a' mm hmm =>
          obtain ⟨hrun, b1, b2, b3, _⟩ := main (some a') 0 (Nat.le_refl _) (Nat.le_refl _) rfl
          refine Sim.value hrun ?_ (.refl h)
          have hl0 : l = 0 := by omega
          have hh0 : hh = 0 := by omega
          have hm0 : m = 0 := by omega
          subst hl0 hh0 hm0
          have : upper mx 0 0 = 0 := by cases mx <;> rfl
          rw [this]
          simp only [if_true]
          exact .slice0 _ _ mm hmm
      | false =>
        rw [hcap] at hr
        simp only [cond_false] at hr
        split at hr
        · cases hr
        · rename_i a1
          split at hr
          · rename_i cc el z ro hg
            cases hz : Nat.beq z 0 || Nat.beq z esz with
            | false => rw [hz] at hr; simp at hr
            | true =>
              rw [hz] at hr
              simp only [cond_true, Option.some.injEq] at hr
              subst hr
              have hcne : cap ≠ 0 := by intro e0; subst e0; simp at hcap
              cases hx with
              | slice0 => exact absurd rfl hcne
              | slice a a' n c c' had hn hcr =>
                have hcc : cap ≤ c' := by rcases hcr with hcr | hcr; · omega
                                          · exact hcr.1
                obtain ⟨hrun, b1, b2, b3, b4⟩ := main (some a') c' hn hcc rfl
                refine Sim.value hrun ?_ (.refl h)
                by_cases hul : upper mx m c' = l
                · have hml : m = l := by
                    cases mx with
                    | some y => exact hul
                    | none => have := b4 rfl; simp only [upper] at hul; omega
                  have e1 : hh - l = 0 := by omega
                  have e2 : m - l = 0 := by omega
                  have e3 : upper mx m c' - l = 0 := by omega
                  rw [e1, e2, e3]
                  simp only [hul, if_true]
                  obtain ⟨_, mm, hmm, _⟩ := ad_add had (l * esz)
                  exact .slice0 _ _ mm hmm
                · rw [if_neg hul]
                  simp only [Option.map_some]
                  refine .slice _ _ _ _ _ (ad_add had _) (by omega) ?_
                  cases mx with
                  | some y => exact .inl rfl
                  | none =>
                    have hmc := b4 rfl
                    subst hmc
                    simp only [upper]
                    rcases hcr with hcr | ⟨hle, mm, hmm, hpos, hsz, hrc⟩
                    · left; omega
                    · right
                      have hob := h.obj _ _ _ hmm hg
                      have hze : mm.esz = z := hob.1
                      have hz' : z = esz := by
                        rw [Bool.or_eq_true] at hz
                        rcases hz with hz | hz
                        · have := Nat.eq_of_beq_eq_true hz; omega
                        · exact Nat.eq_of_beq_eq_true hz
                      subst hz'
                      have hoff : (a1.add (l * z)).off = a1.off + l * z := by
                        unfold Addr.add; split <;> simp_all
                      have hblk : (a1.add (l * z)).block = a1.block := by
                        unfold Addr.add; split <;> rfl
                      refine ⟨by omega, mm, by rw [hblk]; exact hmm, hpos, ?_, ?_⟩
                      · rw [hoff, hze, Nat.sub_mul]
                        rw [hze] at hsz
                        have : l * z ≤ m * z := Nat.mul_le_mul_right _ (by omega)
                        omega
                      · rw [hoff, hze, Nat.sub_mul]
                        rw [hze] at hrc
                        have : l * z ≤ c' * z := Nat.mul_le_mul_right _ (by omega)
                        omega
          · cases hr
    · cases hr
  · -- an array
    rename_i n e hu
    simp only [Option.map_eq_some_iff] at hc
    obtain ⟨esz, hs, rfl⟩ := hc
    simp only [aop, Option.map_eq_some_iff] at hr
    obtain ⟨v1, hr, he1⟩ := hr
    cases he1
    unfold aSliceArr at hr
    split at hr
    · rename_i a es
      split at hr
      · rename_i l hh m hb
        cases hr
        rw [es] at hx
        generalize ev' x = u at hx ⊢
        obtain ⟨a', rfl, had⟩ := ptr_inv hx
        obtain ⟨hrun, b1, b2, b3, b4⟩ := bounds_run (P := P) hlo hhi hmx hb (Nat.le_refl _) (Nat.le_refl _) false w
        have hup : upper mx m n = m := by
          cases mx with
          | some y => rfl
          | none => simp only [upper]; exact (b4 rfl).symm
        rw [hup] at hrun
        refine Sim.value (v' := .slice (some (if m = l then a' else a'.add (l * esz))) (hh - l) (m - l)) ?_ ?_ (.refl h)
        · simp [Instr.sliceAt, Instr.sureAddr, run_underlying hu, hrun, run_sizeT hs]
        · by_cases hml : m = l
          · have e1 : hh - l = 0 := by omega
            have e2 : m - l = 0 := by omega
            rw [e1, e2]
            obtain ⟨_, mm, hmm, _⟩ := ad_add had (l * esz)
            exact .slice0 _ _ mm hmm
          · rw [if_neg hml]
            exact .slice _ _ _ _ _ (ad_add had _) (by omega) (.inl rfl)
      · cases hr
    · cases hr
  · cases hc

end
end Go.AM
