/- The abstract machine runs alike wherever its blocks stand: the operations. -/
import Derived.Test.YtcclefkkjboaeaaGreatDoorARen

namespace Go.AM
open Go

section
variable {r : Nat → Nat}

theorem intArith_sc {op : BinOp} {k : IntKind} {a b : Int} {v : Value} (h : pureOf (Op.intArith op k a b) = some v) : scalarOk v = true := by
  cases op <;> simp [Op.intArith, pureOf, pure, stuck] at h <;> first | (subst h; rfl) | skip
theorem intDiv_sc {op : BinOp} {k : IntKind} {a b : Int} {v : Value} (h : pureOf (Op.intDiv op k a b) = some v) : scalarOk v = true := by
  unfold Op.intDiv at h
  split at h
  · have h' : (none : Option Value) = some v := h
    cases h'
  · cases op <;> simp [pureOf, pure, stuck] at h <;> first | (subst h; rfl) | skip
theorem intBits_sc {op : BinOp} {k : IntKind} {a b : Int} {v : Value} (h : pureOf (Op.intBits op k a b) = some v) : scalarOk v = true := by
  cases op <;> simp [Op.intBits, pureOf, pure, stuck] at h <;> first | (subst h; rfl) | skip
theorem intCmp_sc {op : BinOp} {a b : Int} {v : Value} (h : pureOf (Op.intCmp op a b) = some v) : scalarOk v = true := by
  cases op <;> simp [Op.intCmp, pureOf, pure, stuck] at h <;> first | (subst h; rfl) | skip
theorem stringOp_sc {op : BinOp} {a b : ByteArray} {v : Value} (h : pureOf (Op.stringOp op a b) = some v) : scalarOk v = true := by
  cases op <;> simp only [Op.stringOp] at h <;> (try split at h) <;> simp [pureOf, pure, stuck, unsupported] at h <;> first | (subst h; rfl) | skip
theorem shift_sc {op : BinOp} {k k' : IntKind} {a b : Int} {v : Value} (h : pureOf (Op.shift op k a k' b) = some v) : scalarOk v = true := by
  unfold Op.shift at h
  split at h
  · have h' : (none : Option Value) = some v := h
    cases h'
  · cases op <;> simp [pureOf, pure, stuck] at h <;> first | (subst h; rfl) | skip

theorem aBin_ren {op : BinOp} {eq : EqT} {cx : Bool} {x y v : Value} (h : aBin op eq cx x y = some v) : aBin op eq cx (ren r x) (ren r y) = some v ∧ ren r v = v := by
  have dflt : ∀ {x y : Value}, aCmp op (aEq eq cx x y) = some v → aCmp op (aEq eq cx (ren r x) (ren r y)) = some v ∧ ren r v = v :=
    fun h => aCmp_ren h fun c hc => aEq_ren hc
  cases x with
  | int k a =>
    cases y with
    | int k' b =>
      refine ⟨by simpa [ren] using h, ?_⟩
      have hs : scalarOk v = true := by
        unfold aBin at h
        simp only at h
        split at h <;> first | exact shift_sc h | (split at h <;> first | exact intArith_sc h | exact intDiv_sc h | exact intBits_sc h | exact intCmp_sc h | cases h)
      exact scalar_ren r hs
    | _ => exact dflt (x := .int k a) h
  | string a =>
    cases y with
    | string b => exact ⟨by simpa [ren] using h, scalar_ren r (stringOp_sc h)⟩
    | _ => exact dflt (x := .string a) h
  | bool b => exact dflt (x := .bool b) h
  | float k b => exact dflt (x := .float k b) h
  | complex k a b => exact dflt (x := .complex k a b) h
  | pointer a => exact dflt (x := .pointer a) h
  | slice a n c => exact dflt (x := .slice a n c) h
  | map m => exact dflt (x := .map m) h
  | chan c => exact dflt (x := .chan c) h
  | func f a b => exact dflt (x := .func f a b) h
  | nilFunc => exact dflt (x := .nilFunc) h
  | iface t v => exact dflt (x := .iface t v) h
  | nilIface => exact dflt (x := .nilIface) h
  | agg a => exact dflt (x := .agg a) h
  | tuple a => exact dflt (x := .tuple a) h

theorem unary_ren {op : UnOp} {x v : Value} (h : pureOf (Op.unary op x) = some v) : pureOf (Op.unary op (ren r x)) = some v ∧ ren r v = v := by
  unfold Op.unary at h
  split at h
  · exact ⟨by simpa [ren, Op.unary] using h, scalar_ren r (intArith_sc h)⟩
  · exact ⟨by simpa [ren, Op.unary] using h, scalar_ren r (intBits_sc h)⟩
  · simp only [pureOf, pure] at h; cases h; exact ⟨rfl, by simp [ren]⟩
  · simp only [pureOf, pure] at h; cases h; exact ⟨rfl, by simp [ren]⟩
  · simp only [pureOf, pure] at h; cases h; exact ⟨rfl, by simp [ren]⟩
  all_goals simp [pureOf, stuck, unsupported] at h

theorem aIdx_ren {x : Value} {i : Int} (h : aIdx x = some i) : aIdx (ren r x) = some i := by
  unfold aIdx at h
  split at h
  · simpa [ren, aIdx] using h
  · cases h

theorem aBound_ren {x : Option Value} {d m n : Nat} (h : aBound x d m = some n) : aBound (x.map (ren r)) d m = some n := by
  unfold aBound at h
  split at h
  · simpa [aBound] using h
  · simpa [aBound, ren] using h
  · cases h

theorem aBounds_ren {len cap : Nat} {lo hi mx : Option Value} {p : Nat × Nat × Nat} (h : aBounds len cap lo hi mx = some p) :
    aBounds len cap (lo.map (ren r)) (hi.map (ren r)) (mx.map (ren r)) = some p := by
  unfold aBounds at h ⊢
  cases h1 : aBound mx cap cap with
  | none => rw [h1] at h; cases h
  | some m =>
    rw [h1] at h; rw [aBound_ren h1]
    simp only at h ⊢
    have tail : ∀ {o o' : Option Nat}, (∀ n, o = some n → o' = some n) → (match o with
        | none => none
        | some h => match aBound lo 0 h with
          | none => none
          | some l => some (l, h, m)) = some p → (match o' with
        | none => none
        | some h => match aBound (lo.map (ren r)) 0 h with
          | none => none
          | some l => some (l, h, m)) = some p := by
      intro o o' ho h
      cases o with
      | none => cases h
      | some n =>
        rw [ho n rfl]
        simp only at h ⊢
        cases h3 : aBound lo 0 n with
        | none => rw [h3] at h; cases h
        | some l => rw [h3] at h; rw [aBound_ren h3]; exact h
    cases hi with
    | none =>
      cases mx with
      | none => exact tail (o := aBound none len m) (o' := aBound none len m) (fun n hn => hn) h
      | some y => cases h
    | some z =>
      cases mx with
      | none => exact tail (o := aBound (some z) len m) (o' := aBound (some (ren r z)) len m) (fun n hn => by simpa using aBound_ren (r := r) hn) h
      | some y => exact tail (o := aBound (some z) len m) (o' := aBound (some (ren r z)) len m) (fun n hn => by simpa using aBound_ren (r := r) hn) h

theorem aPart_ren {agg : Bool} {cs : List Value} {off n : Nat} {v : Value} (h : aPart agg cs off n = some v) : aPart agg (cs.map (ren r)) off n = some (ren r v) := by
  cases agg
  · simp only [aPart, cond_false] at h ⊢
    simp [h]
  · simp only [aPart, cond_true, Option.map_eq_some_iff] at h ⊢
    obtain ⟨l, hl, rfl⟩ := h
    refine ⟨l.map (ren r), ?_, by simp [ren, renA_mk]⟩
    rw [← List.map_drop, take?_map, hl]; rfl

theorem aFill_ren {ev ev' : Operand → Value} : ∀ {ps : List (Nat × Nat × Operand)} {cs cs' : List Value}, (∀ p ∈ ps, ev' p.2.2 = ren r (ev p.2.2)) → aFill ev cs ps = some cs' → aFill ev' (cs.map (ren r)) ps = some (cs'.map (ren r))
  | [], cs, cs', _, h => by simp only [aFill, Option.some.injEq] at h ⊢; rw [h]
  | (off, size, x) :: ps, cs, cs', he, h => by
    have hx := he _ (List.mem_cons_self ..)
    simp only at hx
    simp only [aFill, hx, vcells_ren, lenIs_map] at h ⊢
    cases hl : lenIs (vcells (ev x)) size
    · rw [hl] at h; cases h
    · rw [hl] at h
      simp only [cond_true, splice_map] at h ⊢
      cases hs : splice cs off (vcells (ev x)) with
      | none => rw [hs] at h; cases h
      | some c1 =>
        rw [hs] at h
        exact aFill_ren (fun p hp => he p (List.mem_cons_of_mem _ hp)) h

theorem aBytes_ren : ∀ {l : List Value} {bs : List UInt8}, aBytes l = some bs → aBytes (l.map (ren r)) = some bs
  | [], bs, h => h
  | x :: l, bs, h => by
    unfold aBytes at h
    split at h
    · rename_i e; cases e
    · rename_i n l' e
      simp only [List.cons.injEq] at e
      obtain ⟨rfl, rfl⟩ := e
      simp only [Option.map_eq_some_iff] at h
      obtain ⟨bs', hb, rfl⟩ := h
      simp only [List.map_cons, ren, aBytes, aBytes_ren hb, Option.map_some]
    · cases h

theorem aFind_ren {pk : PK} {k : Value} : ∀ {es : List MapEntry} {i : Nat} {o : Option (Nat × Value)}, aFind pk k es i = some o → aFind pk (ren r k) (es.map (renE r)) i = some (o.map fun p => (p.1, ren r p.2))
  | [], i, o, h => by simp only [aFind, Option.some.injEq] at h; subst h; rfl
  | e :: es, i, o, h => by
    simp only [aFind, List.map_cons] at h ⊢
    cases hp : primEq pk k e.key with
    | none => rw [hp] at h; cases h
    | some b =>
      rw [hp] at h
      have : primEq pk (ren r k) (renE r e).key = some b := primEq_ren hp
      rw [this]
      cases b
      · exact aFind_ren h
      · simp only [Option.some.injEq] at h; subst h; rfl

theorem aMinMax_ren {b : Bool} : ∀ {l : List Value} {x v : Value}, aMinMax b x l = some v → aMinMax b (ren r x) (l.map (ren r)) = some (ren r v)
  | [], x, v, h => by simp only [aMinMax, Option.some.injEq, List.map_nil] at h ⊢; rw [h]
  | y :: l, x, v, h => by
    unfold aMinMax at h
    split at h
    · rename_i e; cases e
    · rename_i k a k' b' rest e
      simp only [List.cons.injEq] at e
      obtain ⟨rfl, rfl⟩ := e
      split at h
      · rename_i e; subst e
        have := aMinMax_ren h
        simp only [List.map_cons, ren, aMinMax, if_true] at this ⊢
        exact this
      · cases h
    · cases h

theorem u8s_ren (l : List UInt8) : (l.map fun b => Value.int .u8 b.toNat).map (ren r) = l.map fun b => Value.int .u8 b.toNat := by
  rw [List.map_map]; apply List.map_congr_left; intro b _; simp [ren]

theorem aSrcLen_ren (x : Value) : aSrcLen (ren r x) = aSrcLen x := by cases x <;> simp [ren, aSrcLen]

theorem aSrc_ren {σ τ : AW} (h : Emb r σ τ) {esz : Nat} {x : Value} {l : List Value} (hs : aSrc σ esz x = some l) : aSrc τ esz (ren r x) = some (l.map (ren r)) := by
  unfold aSrc at hs
  split at hs
  · cases hs; simp [ren, aSrc]
  · simp only [ren, Option.map_some, aSrc]; exact h.loadN hs
  · cases hs
    simp only [ren, aSrc, u8s_ren]
  · cases hs

theorem aKill_ren {σ τ σ' : AW} (h : Emb r σ τ) {esz cap : Nat} {a : Addr} (hs : aKill σ esz a cap = some σ') : ∃ τ', aKill τ esz (renAd r a) cap = some τ' ∧ Fr r σ τ σ' τ' ∧ σ'.next = σ.next ∧ τ'.next = τ.next := by
  unfold aKill at hs ⊢
  split at hs
  · rename_i c e z ro hg
    have := h.get _ _ hg
    simp only [renO] at this
    simp only [renAd, this, List.length_map] at hs ⊢
    cases hz : Nat.beq z 0
    · rw [hz] at hs
      simp only [cond_false] at hs ⊢
      cases h2 : (Nat.beq z esz && !ro)
      · rw [h2] at hs; cases hs
      · rw [h2] at hs
        simp only [cond_true] at hs ⊢
        cases h3 : Nat.beq (a.off + cap * esz) c.length
        · rw [h3] at hs; simp only [cond_false, Option.some.injEq] at hs ⊢; subst hs; exact ⟨_, rfl, .refl h, rfl, rfl⟩
        · rw [h3] at hs; simp only [cond_true, Option.some.injEq] at hs ⊢; subst hs
          exact ⟨_, rfl, h.upd hg .dead, rfl, rfl⟩
    · rw [hz] at hs; simp only [cond_true, Option.some.injEq] at hs ⊢; subst hs; exact ⟨_, rfl, .refl h, rfl, rfl⟩
  · cases hs

theorem renAd_add (a : Addr) (n : Nat) : renAd r (a.add n) = (renAd r a).add n := by
  unfold Addr.add renAd; split <;> rfl

theorem r_next {σ τ : AW} (h : Emb r σ τ) : r σ.next = τ.next := by simpa using h.next 0

theorem fresh_ren {σ τ : AW} (h : Emb r σ τ) : renAd r ⟨σ.next, 0, none⟩ = ⟨τ.next, 0, none⟩ := by simp [renAd, r_next h]

theorem aAppend_ren {σ τ σ' : AW} (h : Emb r σ τ) {e esz bytes : Nat} {s x v : Value} (hs : aAppend e esz bytes s x σ = some (v, σ')) :
    ∃ τ', aAppend e esz bytes (ren r s) (ren r x) τ = some (ren r v, τ') ∧ Fr r σ τ σ' τ' := by
  unfold aAppend at hs ⊢
  split at hs
  · rename_i base len cap n new hn hnew
    rw [aSrcLen_ren, hn, aSrc_ren h hnew]
    simp only [ren] at hs ⊢
    cases h0 : Nat.beq esz 0
    · rw [h0] at hs
      simp only [cond_false] at hs ⊢
      cases h1 : Nat.ble (len + n) cap
      · rw [h1] at hs
        simp only [cond_false, all_isCell_ren, List.length_map] at hs ⊢
        cases h2 : (Nat.ble ((len + n) * (bytes + 1)) maxBytes && (new.all isCell && Nat.beq new.length (n * esz)))
        · rw [h2] at hs; cases hs
        · rw [h2] at hs
          simp only [cond_true] at hs ⊢
          cases base with
          | none =>
            simp only [Option.map_none] at hs ⊢
            cases h3 : Nat.beq len 0
            · rw [h3] at hs; cases hs
            · rw [h3] at hs
              simp only [cond_true, Option.some.injEq, Prod.mk.injEq] at hs ⊢
              obtain ⟨rfl, rfl⟩ := hs
              exact ⟨_, ⟨by simp [ren, fresh_ren h], rfl⟩, h.push _⟩
          | some a =>
            simp only [Option.map_some] at hs ⊢
            cases h3 : σ.loadN a (len * esz) with
            | none => rw [h3] at hs; cases hs
            | some old =>
              rw [h3] at hs; rw [h.loadN h3]
              cases h4 : aKill σ esz a cap with
              | none => rw [h4] at hs; cases hs
              | some σ1 =>
                obtain ⟨τ1, hk, hf, e1, e2⟩ := aKill_ren h h4
                rw [h4] at hs; rw [hk]
                simp only [Option.some.injEq, Prod.mk.injEq] at hs ⊢
                obtain ⟨rfl, rfl⟩ := hs
                refine ⟨_, ⟨by simp [ren, fresh_ren hf.emb], rfl⟩, ?_⟩
                have := hf.emb.push (.cells (old ++ new) e esz false)
                simp only [renO, List.map_append] at this
                exact hf.trans h this
      · rw [h1] at hs
        simp only [cond_true] at hs ⊢
        cases h2 : Nat.beq n 0
        · rw [h2] at hs
          simp only [cond_false] at hs ⊢
          cases base with
          | none => cases hs
          | some a =>
            simp only [Option.map_eq_some_iff, Prod.mk.injEq, Option.map_some] at hs ⊢
            obtain ⟨σ1, hst, rfl, rfl⟩ := hs
            obtain ⟨τ1, ht, hf⟩ := h.storeN hst
            exact ⟨τ1, ⟨τ1, by rw [← renAd_add]; exact ht, by simp [ren], rfl⟩, hf⟩
        · rw [h2] at hs
          simp only [cond_true, Option.some.injEq, Prod.mk.injEq] at hs ⊢
          obtain ⟨rfl, rfl⟩ := hs
          exact ⟨τ, ⟨by simp [ren], rfl⟩, .refl h⟩
    · rw [h0] at hs; cases hs
  · cases hs

theorem aCopy_ren {σ τ σ' : AW} (h : Emb r σ τ) {esz : Nat} {d s v : Value} (hs : aCopy esz d s σ = some (v, σ')) :
    ∃ τ', aCopy esz (ren r d) (ren r s) τ = some (ren r v, τ') ∧ Fr r σ τ σ' τ' := by
  unfold aCopy at hs ⊢
  split at hs
  · rename_i base dLen c sLen hl
    rw [aSrcLen_ren, hl]
    simp only [ren] at hs ⊢
    cases h0 : Nat.beq (Nat.min sLen dLen) 0
    · rw [h0] at hs
      simp only [cond_false] at hs ⊢
      split at hs
      · rename_i a b n' c'
        simp only [Option.map_some, ren]
        cases h1 : σ.loadN b (Nat.min sLen dLen * esz) with
        | none => rw [h1] at hs; cases hs
        | some cs =>
          rw [h1] at hs; rw [h.loadN h1]
          simp only [Option.map_eq_some_iff, Prod.mk.injEq] at hs ⊢
          obtain ⟨σ1, hst, rfl, rfl⟩ := hs
          obtain ⟨τ1, ht, hf⟩ := h.storeN hst
          exact ⟨τ1, ⟨τ1, ht, by simp [goInt, ren], rfl⟩, hf⟩
      · rename_i a str
        simp only [Option.map_some, ren]
        cases h1 : Nat.beq esz 1
        · rw [h1] at hs; cases hs
        · rw [h1] at hs
          simp only [cond_true, Option.map_eq_some_iff, Prod.mk.injEq] at hs ⊢
          obtain ⟨σ1, hst, rfl, rfl⟩ := hs
          obtain ⟨τ1, ht, hf⟩ := h.storeN hst
          rw [u8s_ren] at ht
          exact ⟨τ1, ⟨τ1, ht, by simp [goInt, ren], rfl⟩, hf⟩
      · cases hs
    · rw [h0] at hs
      simp only [cond_true, Option.some.injEq, Prod.mk.injEq] at hs ⊢
      obtain ⟨rfl, rfl⟩ := hs
      exact ⟨τ, ⟨by simp [goInt, ren], rfl⟩, .refl h⟩
  · cases hs

theorem replicate_ren {z : List Value} (hz : z.all scalarOk = true) (n : Nat) : (List.replicate n z).flatten.map (ren r) = (List.replicate n z).flatten := by
  apply scalars_ren
  induction n with
  | zero => rfl
  | succ n ih => simp only [List.replicate_succ, List.flatten_cons, List.all_append, hz, ih, Bool.and_self]

theorem goInt_ren (n : Int) : ren r (goInt n) = goInt n := by simp [goInt, ren]

theorem aSliceStr_ren {x v : Value} {lo hi mx : Option Value} (h : aSliceStr x lo hi mx = some v) : aSliceStr (ren r x) (lo.map (ren r)) (hi.map (ren r)) (mx.map (ren r)) = some (ren r v) := by
  unfold aSliceStr at h ⊢
  split at h
  · rename_i s
    split at h
    · rename_i l hh _ hb
      cases h
      have := aBounds_ren (r := r) hb
      simp only [Option.map_none] at this
      simp only [ren, Option.map_none, this]
    · cases h
  · cases h

theorem aSliceSl_ren {σ τ : AW} (h : Emb r σ τ) {esz : Nat} {x v : Value} {lo hi mx : Option Value} (hs : aSliceSl σ esz x lo hi mx = some v) : aSliceSl τ esz (ren r x) (lo.map (ren r)) (hi.map (ren r)) (mx.map (ren r)) = some (ren r v) := by
  unfold aSliceSl at hs ⊢
  split at hs
  · rename_i a len cap
    simp only [ren]
    split at hs
    · rename_i l hh m hb
      rw [aBounds_ren hb]
      simp only
      cases h0 : Nat.beq cap 0
      · rw [h0] at hs
        simp only [cond_false] at hs ⊢
        cases a with
        | none => cases hs
        | some a =>
          simp only [Option.map_some] at hs ⊢
          split at hs
          · rename_i c e z ro hg
            have := h.get _ _ hg
            simp only [renO] at this
            simp only [renAd, this]
            cases h1 : (Nat.beq z 0 || Nat.beq z esz)
            · rw [h1] at hs; cases hs
            · rw [h1] at hs; cases hs; simp [ren, renAd_add]; rfl
          · cases hs
      · rw [h0] at hs; cases hs; simp [ren]
    · cases hs
  · cases hs

theorem aSliceArr_ren {n esz : Nat} {x v : Value} {lo hi mx : Option Value} (hs : aSliceArr n esz x lo hi mx = some v) : aSliceArr n esz (ren r x) (lo.map (ren r)) (hi.map (ren r)) (mx.map (ren r)) = some (ren r v) := by
  unfold aSliceArr at hs ⊢
  split at hs
  · rename_i a
    simp only [ren, Option.map_some]
    split at hs
    · rename_i l hh m hb
      rw [aBounds_ren hb]
      cases hs; simp [ren, renAd_add]
    · cases hs
  · cases hs

end
end Go.AM
