/- What a run of the abstract machine comes to: memories as they grow, looked at. -/
import Derived.Test.YtcclefkkjboaeaaGreatDoorAWp2

namespace Go.AM
open Go

/-! ### Trees: a later change, an earlier one -/

theorem T.setF_val {α : Type} : ∀ (f : Nat) (t : T α) (n : Nat) (x : Option α), n < f → (T.setF f t n x).val = if n = 0 then x else t.val
  | 0, _, _, _, h => by omega
  | f + 1, t, 0, x, _ => rfl
  | f + 1, t, m + 1, x, _ => by
    simp only [T.setF]
    cases Nat.beq (m % 2) 0 <;> simp [T.val]

theorem T.set_set_aux {α : Type} : ∀ (f : Nat) (t : T α) (n : Nat) (x y : Option α), n < f → T.setF f (T.setF f t n x) n y = T.setF f t n y
  | 0, _, _, _, _, h => by omega
  | f + 1, t, 0, x, y, _ => by simp [T.setF, T.left, T.right]
  | f + 1, t, m + 1, x, y, h => by
    simp only [T.setF]
    cases hb : Nat.beq (m % 2) 0 <;> simp [T.left, T.right, T.val, T.set_set_aux f _ (m / 2) x y (by omega)]

theorem T.setF_fuel {α : Type} : ∀ (f g : Nat) (t : T α) (n : Nat) (x : Option α), n < f → n < g → T.setF f t n x = T.setF g t n x
  | 0, _, _, _, _, h, _ => by omega
  | _ + 1, 0, _, _, _, _, h => by omega
  | f + 1, g + 1, t, 0, x, _, _ => rfl
  | f + 1, g + 1, t, m + 1, x, h, h' => by
    simp only [T.setF]
    rw [T.setF_fuel f g t.left (m / 2) x (by omega) (by omega), T.setF_fuel f g t.right (m / 2) x (by omega) (by omega)]

theorem T.set_comm_aux {α : Type} : ∀ (f : Nat) (t : T α) (n k : Nat) (x y : Option α), n < f → k < f → n ≠ k → T.setF f (T.setF f t n x) k y = T.setF f (T.setF f t k y) n x
  | 0, _, _, _, _, _, h, _, _ => by omega
  | f + 1, t, 0, 0, x, y, _, _, h => absurd rfl h
  | f + 1, t, 0, k + 1, x, y, _, _, _ => by
    simp only [T.setF]
    cases hb : Nat.beq (k % 2) 0 <;> simp [T.setF, T.left, T.right, T.val]
  | f + 1, t, n + 1, 0, x, y, _, _, _ => by
    simp only [T.setF]
    cases hb : Nat.beq (n % 2) 0 <;> simp [T.setF, T.left, T.right, T.val]
  | f + 1, t, n + 1, k + 1, x, y, h, h', hne => by
    simp only [T.setF]
    cases hb : Nat.beq (n % 2) 0 <;> cases hc : Nat.beq (k % 2) 0 <;> simp only [cond_true, cond_false, T.left, T.right, T.val]
    · have h1 : n % 2 = 1 := by
        have : n % 2 ≠ 0 := fun e => by rw [e] at hb; exact absurd hb (by decide)
        omega
      have h2 : k % 2 = 1 := by
        have : k % 2 ≠ 0 := fun e => by rw [e] at hc; exact absurd hc (by decide)
        omega
      exact congrArg (fun z => T.node t.val t.left z) (T.set_comm_aux f t.right (n / 2) (k / 2) x y (by omega) (by omega) (by omega))
    · have h1 : n % 2 = 0 := Nat.eq_of_beq_eq_true hb
      have h2 : k % 2 = 0 := Nat.eq_of_beq_eq_true hc
      exact congrArg (fun z => T.node t.val z t.right) (T.set_comm_aux f t.left (n / 2) (k / 2) x y (by omega) (by omega) (by omega))

theorem T.set_set {α : Type} (t : T α) (n : Nat) (x y : α) : (t.set n x).set n y = t.set n y := T.set_set_aux _ _ _ _ _ (Nat.lt_succ_self n)

theorem T.set_comm {α : Type} (t : T α) (n k : Nat) (x y : α) (h : n ≠ k) : (t.set n x).set k y = (t.set k y).set n x := by
  simp only [T.set, T.put]
  rw [T.setF_fuel (n + 1) (n + k + 1) t n _ (by omega) (by omega), T.setF_fuel (k + 1) (n + k + 1) _ k _ (by omega) (by omega), T.setF_fuel (k + 1) (n + k + 1) t k _ (by omega) (by omega), T.setF_fuel (n + 1) (n + k + 1) _ n _ (by omega) (by omega)]
  exact T.set_comm_aux _ _ _ _ _ _ (by omega) (by omega) h

/-! ### Memories -/

section
variable (σ : AW) (o o' : AObj) (b off n : Nat) (c : List Value) (e : TypeId) (z : Nat) (vs : List Value)

theorem h_push_next : (σ.push o).next = σ.next + 1 := rfl
theorem h_upd_next : (σ.upd b o).next = σ.next := rfl
theorem h_push_get : (σ.push o).heap.get b = if b = σ.next then some o else σ.heap.get b := by simp only [AW.push, T.get_set]
theorem h_upd_get (k : Nat) : (σ.upd b o).heap.get k = if k = b then some o else σ.heap.get k := by simp only [AW.upd, T.get_set]

theorem h_upd_push : (σ.push o).upd b o' = if b = σ.next then σ.push o' else (σ.upd b o').push o := by
  split
  · rename_i h; subst h; simp only [AW.upd, AW.push, T.set_set]
  · rename_i h
    simp only [AW.upd, AW.push]
    rw [T.set_comm _ _ _ _ _ (fun e => h e.symm)]

def aCellsIn (o : AObj) (off n : Nat) : Option (List Value) :=
  match o with
  | .cells c _ _ _ => take? n (c.drop off)
  | _ => none

theorem h_loadN_push : (σ.push o).loadN ⟨b, off, none⟩ n = if b = σ.next then aCellsIn o off n else σ.loadN ⟨b, off, none⟩ n := by
  simp only [AW.loadN, h_push_get]
  by_cases h : b = σ.next
  · simp only [if_pos h]; cases o <;> rfl
  · simp only [if_neg h]

theorem h_loadN_upd (k : Nat) : (σ.upd b o).loadN ⟨k, off, none⟩ n = if k = b then aCellsIn o off n else σ.loadN ⟨k, off, none⟩ n := by
  simp only [AW.loadN, h_upd_get]
  by_cases h : k = b
  · simp only [if_pos h]; cases o <;> rfl
  · simp only [if_neg h]

def aCellsPut (o : AObj) (off : Nat) (vs : List Value) : Option AObj :=
  match o with
  | .cells c e z false => bif vs.all isCell then (splice c off vs).map fun c' => .cells c' e z false else none
  | _ => none

theorem h_storeN_push : (σ.push o).storeN ⟨b, off, none⟩ vs = if b = σ.next then (aCellsPut o off vs).map σ.push else (σ.storeN ⟨b, off, none⟩ vs).map (·.push o) := by
  simp only [AW.storeN, h_push_get]
  by_cases h : b = σ.next
  · subst h
    simp only [if_true]
    cases o with
    | cells c e z ro =>
      cases ro
      · simp only [aCellsPut]
        cases vs.all isCell
        · rfl
        · simp only [cond_true, Option.map_map, h_upd_push, if_true]; rfl
      · rfl
    | map es k => rfl
    | loop L => rfl
    | dead => rfl
  · simp only [if_neg h]
    split
    · cases vs.all isCell
      · rfl
      · simp only [cond_true, Option.map_map, h_upd_push, if_neg h]; rfl
    · rfl

theorem h_loadN_of_get {a : Addr} (hs : a.spot = none) {ro : Bool} (h : σ.heap.get a.block = some (.cells c e z ro)) : σ.loadN a n = take? n (c.drop a.off) := by
  simp only [AW.loadN, hs, h]

theorem h_storeN_of_get {a : Addr} (hs : a.spot = none) (h : σ.heap.get a.block = some (.cells c e z false)) (hv : vs.all isCell = true) : σ.storeN a vs = (splice c a.off vs).map fun c' => σ.upd a.block (.cells c' e z false) := by
  simp only [AW.storeN, hs, h, hv, cond_true]

theorem h_add_mk (k : Nat) : (Addr.add ⟨b, off, none⟩ k) = ⟨b, off + k, none⟩ := by
  unfold Addr.add; split
  · rename_i h; subst h; rfl
  · rfl

end

def condK (F : FuncId → Option AFunc) (m : Nat) (o : Option Value) (a b : ACode) (env : Env) (σ : AW) (Q : AExit → Env → AW → Prop) : Prop :=
  guardB o fun t => (t = true → wp F m a env σ Q) ∧ (t = false → wp F m b env σ Q)

section
variable (F : FuncId → Option AFunc) (m : Nat) (d : Option Nat) (env : Env) (σ : AW) (l : List AOper) (Q : Env → AW → Prop)

/-! ### The rules, one operation at a time -/

theorem aOps_nil : wpOps F [] env σ Q = Q env σ := propext ⟨fun h => h, fun h => h⟩
theorem aOps_mov (x : Operand) : wpOps F (⟨d, .mov x, none⟩ :: l) env σ Q = wpOpt ((eVal env x).map fun v => (v, σ)) (opsK F d env l Q) := propext ⟨fun h => h, fun h => h⟩
theorem aOps_pick (c : Operand) (a : Operand) (b : Operand) : wpOps F (⟨d, .pick c a b, none⟩ :: l) env σ Q = wpOpt (match eVal env c, eVal env a, eVal env b with
    | some (.bool t), some v, some w => some (bif t then v else w, σ)
    | _, _, _ => none) (opsK F d env l Q) := propext ⟨fun h => h, fun h => h⟩
theorem aOps_alloc (e : TypeId) (z : List Value) : wpOps F (⟨d, .alloc e z, none⟩ :: l) env σ Q = wpOpt (some (.pointer (some ⟨σ.next, 0, none⟩), σ.push (.cells z e 0 false))) (opsK F d env l Q) := propext ⟨fun h => h, fun h => h⟩
theorem aOps_box (e : TypeId) (x : Operand) : wpOps F (⟨d, .box e x, none⟩ :: l) env σ Q = wpOpt ((eVal env x).map fun v => (.pointer (some ⟨σ.next, 0, none⟩), σ.push (.cells (vcells v) e 0 false))) (opsK F d env l Q) := propext ⟨fun h => h, fun h => h⟩
theorem aOps_build (z : List Value) (ps : List (Nat × Nat × Operand)) : wpOps F (⟨d, .build z ps, none⟩ :: l) env σ Q = wpOpt ((eFill env z ps).map fun cs => (.agg ⟨cs⟩, σ)) (opsK F d env l Q) := propext ⟨fun h => h, fun h => h⟩
theorem aOps_buildSlice (e : TypeId) (len : Nat) (z : List Value) (ps : List (Nat × Nat × Operand)) : wpOps F (⟨d, .buildSlice e len z ps, none⟩ :: l) env σ Q = wpOpt ((eFill env z ps).map fun cs => (.slice (some ⟨σ.next, 0, none⟩) len len, σ.push (.cells cs e 0 false))) (opsK F d env l Q) := propext ⟨fun h => h, fun h => h⟩
theorem aOps_load1 (a : Operand) : wpOps F (⟨d, .load1 a, none⟩ :: l) env σ Q = wpOpt (match eVal env a with
    | some (.pointer (some p)) => match σ.loadN p 1 with
      | some [x] => some (x, σ)
      | _ => none
    | _ => none) (opsK F d env l Q) := propext ⟨fun h => h, fun h => h⟩
theorem aOps_loadN (n : Nat) (a : Operand) : wpOps F (⟨d, .loadN n a, none⟩ :: l) env σ Q = wpOpt (match eVal env a with
    | some (.pointer (some p)) => (σ.loadN p n).map fun cs => (.agg ⟨cs⟩, σ)
    | _ => none) (opsK F d env l Q) := propext ⟨fun h => h, fun h => h⟩
theorem aOps_store (n : Nat) (a : Operand) (x : Operand) : wpOps F (⟨d, .store n a x, none⟩ :: l) env σ Q = wpOpt (match eVal env a, eVal env x with
    | some (.pointer (some p)), some v => if lenIs (vcells v) n = true then (σ.storeN p (vcells v)).map fun σ' => (undef, σ') else none
    | _, _ => none) (opsK F d env l Q) := propext ⟨fun h => h, fun h => h⟩
theorem aOps_nilCheck (x : Operand) : wpOps F (⟨d, .nilCheck x, none⟩ :: l) env σ Q = wpOpt (match eVal env x with
    | some v => if nonNil v = true then some (v, σ) else none
    | none => none) (opsK F d env l Q) := propext ⟨fun h => h, fun h => h⟩
theorem aOps_bin (op : BinOp) (eq : EqT) (x : Operand) (y : Operand) : wpOps F (⟨d, .bin op eq x y, none⟩ :: l) env σ Q = wpOpt (match eVal env x, eVal env y with
    | some a, some b => (aBin op eq (isConst x || isConst y) a b).map fun v => (v, σ)
    | _, _ => none) (opsK F d env l Q) := propext ⟨fun h => h, fun h => h⟩
theorem aOps_un (op : UnOp) (x : Operand) : wpOps F (⟨d, .un op x, none⟩ :: l) env σ Q = wpOpt (match eVal env x with
    | some a => (pureOf (Op.unary op a)).map fun v => (v, σ)
    | none => none) (opsK F d env l Q) := propext ⟨fun h => h, fun h => h⟩
theorem aOps_convInt (k : IntKind) (x : Operand) : wpOps F (⟨d, .convInt k x, none⟩ :: l) env σ Q = wpOpt (match eVal env x with
    | some (.int _ n) => some (.int k (k.wrap n), σ)
    | _ => none) (opsK F d env l Q) := propext ⟨fun h => h, fun h => h⟩
theorem aOps_convStr (x : Operand) : wpOps F (⟨d, .convStr x, none⟩ :: l) env σ Q = wpOpt (match eVal env x with
    | some (.string s) => some (.string s, σ)
    | _ => none) (opsK F d env l Q) := propext ⟨fun h => h, fun h => h⟩
theorem aOps_convBytesStr (x : Operand) : wpOps F (⟨d, .convBytesStr x, none⟩ :: l) env σ Q = wpOpt (match eVal env x with
    | some v => (aBytesStr σ v).map fun s => (.string s, σ)
    | none => none) (opsK F d env l Q) := propext ⟨fun h => h, fun h => h⟩
theorem aOps_convStrBytes (e : TypeId) (x : Operand) : wpOps F (⟨d, .convStrBytes e x, none⟩ :: l) env σ Q = wpOpt (match eVal env x with
    | some (.string s) => some (.slice (some ⟨σ.next, 0, none⟩) s.size s.size, σ.push (.cells (s.data.toList.map fun b => .int .u8 b.toNat) e 1 false))
    | _ => none) (opsK F d env l Q) := propext ⟨fun h => h, fun h => h⟩
theorem aOps_makeIface (t : TypeId) (x : Operand) : wpOps F (⟨d, .makeIface t x, none⟩ :: l) env σ Q = wpOpt ((eVal env x).map fun v => (.iface t v, σ)) (opsK F d env l Q) := propext ⟨fun h => h, fun h => h⟩
theorem aOps_makeFunc (f : FuncId) (a : List Operand) (b : List Operand) : wpOps F (⟨d, .makeFunc f a b, none⟩ :: l) env σ Q = wpOpt (match eVals env a, eVals env b with
    | some va, some vb => some (.func (.func f) ⟨va⟩ ⟨vb⟩, σ)
    | _, _ => none) (opsK F d env l Q) := propext ⟨fun h => h, fun h => h⟩
theorem aOps_makeMap  : wpOps F (⟨d, .makeMap , none⟩ :: l) env σ Q = wpOpt (some (.map (some σ.next), σ.push (.map [] 0))) (opsK F d env l Q) := propext ⟨fun h => h, fun h => h⟩
theorem aOps_makeSlice (e : TypeId) (u1 : Nat) (bytes : Nat) (z : List Value) (ll : Operand) (c : Operand) : wpOps F (⟨d, .makeSlice e u1 bytes z ll c, none⟩ :: l) env σ Q = wpOpt (match eVal env ll, eVal env c with
    | some (.int _ n), some (.int _ n') => if 0 ≤ n ∧ n ≤ n' ∧ n' * (bytes + 1) ≤ maxBytes then
        some (.slice (some ⟨σ.next, 0, none⟩) n.toNat n'.toNat, σ.push (.cells (List.replicate n'.toNat z).flatten e 0 false)) else none
    | _, _ => none) (opsK F d env l Q) := propext ⟨fun h => h, fun h => h⟩
theorem aOps_slice (k : SlK) (x : Operand) (lo : Option Operand) (hi : Option Operand) (mx : Option Operand) : wpOps F (⟨d, .slice k x lo hi mx, none⟩ :: l) env σ Q = wpOpt (match eVal env x, eOpt env lo, eOpt env hi, eOpt env mx with
    | some a, some l, some h, some m => (match k with
      | .str => aSliceStr a l h m
      | .sl esz => aSliceSl σ esz a l h m
      | .arr n esz => aSliceArr n esz a l h m).map fun v => (v, σ)
    | _, _, _, _ => none) (opsK F d env l Q) := propext ⟨fun h => h, fun h => h⟩
theorem aOps_fieldAddr (off : Nat) (x : Operand) : wpOps F (⟨d, .fieldAddr off x, none⟩ :: l) env σ Q = wpOpt (match eVal env x with
    | some (.pointer (some a)) => some (.pointer (some (a.add off)), σ)
    | _ => none) (opsK F d env l Q) := propext ⟨fun h => h, fun h => h⟩
theorem aOps_field (agg : Bool) (off : Nat) (n : Nat) (x : Operand) : wpOps F (⟨d, .field agg off n x, none⟩ :: l) env σ Q = wpOpt (match eVal env x with
    | some (.agg cs) => (aPart agg cs.toList off n).map fun v => (v, σ)
    | _ => none) (opsK F d env l Q) := propext ⟨fun h => h, fun h => h⟩
theorem aOps_indexAddrArr (len : Nat) (esz : Nat) (x : Operand) (i : Operand) : wpOps F (⟨d, .indexAddrArr len esz x i, none⟩ :: l) env σ Q = wpOpt (match eVal env x, eVal env i with
    | some (.pointer (some a)), some (.int _ n) => if 0 ≤ n ∧ n < len then some (.pointer (some (a.add (n.toNat * esz))), σ) else none
    | _, _ => none) (opsK F d env l Q) := propext ⟨fun h => h, fun h => h⟩
theorem aOps_indexAddrSl (esz : Nat) (x : Operand) (i : Operand) : wpOps F (⟨d, .indexAddrSl esz x i, none⟩ :: l) env σ Q = wpOpt (match eVal env x, eVal env i with
    | some (.slice (some a) len _), some (.int _ n) => if 0 ≤ n ∧ n < len then some (.pointer (some (a.add (n.toNat * esz))), σ) else none
    | _, _ => none) (opsK F d env l Q) := propext ⟨fun h => h, fun h => h⟩
theorem aOps_indexStr (x : Operand) (i : Operand) : wpOps F (⟨d, .indexStr x i, none⟩ :: l) env σ Q = wpOpt (match eVal env x, eVal env i with
    | some (.string s), some (.int _ n) => if 0 ≤ n then (s[n.toNat]?).map fun b => (.int .u8 b.toNat, σ) else none
    | _, _ => none) (opsK F d env l Q) := propext ⟨fun h => h, fun h => h⟩
theorem aOps_indexArr (agg : Bool) (len : Nat) (esz : Nat) (x : Operand) (i : Operand) : wpOps F (⟨d, .indexArr agg len esz x i, none⟩ :: l) env σ Q = wpOpt (match eVal env x, eVal env i with
    | some (.agg cs), some (.int _ n) => if 0 ≤ n ∧ n < len then (aPart agg cs.toList (n.toNat * esz) esz).map fun v => (v, σ) else none
    | _, _ => none) (opsK F d env l Q) := propext ⟨fun h => h, fun h => h⟩
theorem aOps_extract (x : Operand) (i : Nat) : wpOps F (⟨d, .extract x i, none⟩ :: l) env σ Q = wpOpt (match eVal env x with
    | some (.tuple vs) => (vs.toList[i]?).map fun v => (v, σ)
    | _ => none) (opsK F d env l Q) := propext ⟨fun h => h, fun h => h⟩
theorem aOps_lenStr (x : Operand) : wpOps F (⟨d, .lenStr x, none⟩ :: l) env σ Q = wpOpt (match eVal env x with
    | some (.string s) => some (goInt s.size, σ)
    | _ => none) (opsK F d env l Q) := propext ⟨fun h => h, fun h => h⟩
theorem aOps_lenSl (x : Operand) : wpOps F (⟨d, .lenSl x, none⟩ :: l) env σ Q = wpOpt (match eVal env x with
    | some (.slice _ n _) => some (goInt n, σ)
    | _ => none) (opsK F d env l Q) := propext ⟨fun h => h, fun h => h⟩
theorem aOps_append (e : TypeId) (esz : Nat) (bytes : Nat) (s : Operand) (x : Operand) : wpOps F (⟨d, .append e esz bytes s x, none⟩ :: l) env σ Q = wpOpt (match eVal env s, eVal env x with
    | some a, some b => aAppend e esz bytes a b σ
    | _, _ => none) (opsK F d env l Q) := propext ⟨fun h => h, fun h => h⟩
theorem aOps_copy (esz : Nat) (dd : Operand) (s : Operand) : wpOps F (⟨d, .copy esz dd s, none⟩ :: l) env σ Q = wpOpt (match eVal env dd, eVal env s with
    | some a, some b => aCopy esz a b σ
    | _, _ => none) (opsK F d env l Q) := propext ⟨fun h => h, fun h => h⟩
theorem aOps_minmax (b : Bool) (x : Operand) (ll : List Operand) : wpOps F (⟨d, .minmax b x ll, none⟩ :: l) env σ Q = wpOpt (match eVal env x, eVals env ll with
    | some a, some vs => (aMinMax b a vs).map fun v => (v, σ)
    | _, _ => none) (opsK F d env l Q) := propext ⟨fun h => h, fun h => h⟩
theorem aOps_lookup (pk : PK) (z : Value) (ok : Bool) (mm : Operand) (k : Operand) : wpOps F (⟨d, .lookup pk z ok mm k, none⟩ :: l) env σ Q = wpOpt (match eVal env mm, eVal env k with
    | some _, some _ => aop (eEv env) (.lookup pk z ok mm k) σ
    | _, _ => none) (opsK F d env l Q) := propext ⟨fun h => h, fun h => h⟩
theorem aOps_mapUpdate (pk : PK) (mm : Operand) (k : Operand) (x : Operand) : wpOps F (⟨d, .mapUpdate pk mm k x, none⟩ :: l) env σ Q = wpOpt (match eVal env mm, eVal env k, eVal env x with
    | some _, some _, some _ => aop (eEv env) (.mapUpdate pk mm k x) σ
    | _, _, _ => none) (opsK F d env l Q) := propext ⟨fun h => h, fun h => h⟩
theorem aOps_lenMap (x : Operand) : wpOps F (⟨d, .lenMap x, none⟩ :: l) env σ Q = wpOpt (match eVal env x with
    | some _ => aop (eEv env) (.lenMap x) σ
    | none => none) (opsK F d env l Q) := propext ⟨fun h => h, fun h => h⟩
theorem aOps_clear (z : List Value) (s : Operand) : wpOps F (⟨d, .clear z s, none⟩ :: l) env σ Q = wpOpt (match eVal env s with
    | some _ => aop (eEv env) (.clear z s) σ
    | none => none) (opsK F d env l Q) := propext ⟨fun h => h, fun h => h⟩
theorem aOps_delete (pk : PK) (mm : Operand) (k : Operand) : wpOps F (⟨d, .delete pk mm k, none⟩ :: l) env σ Q = wpOpt (match eVal env mm, eVal env k with
    | some _, some _ => aop (eEv env) (.delete pk mm k) σ
    | _, _ => none) (opsK F d env l Q) := propext ⟨fun h => h, fun h => h⟩
theorem aopE_load1 (x : Operand) : aopE env (.load1 x) σ = match eVal env x with
    | some (.pointer (some p)) => match σ.loadN p 1 with
      | some [x] => some (x, σ)
      | _ => none
    | _ => none := rfl
theorem aopE_loadN (n : Nat) (x : Operand) : aopE env (.loadN n x) σ = match eVal env x with
    | some (.pointer (some p)) => (σ.loadN p n).map fun cs => (.agg ⟨cs⟩, σ)
    | _ => none := rfl
theorem aOps_call (f : Operand) (args : List Operand) : wpOps F (⟨d, .call f args, none⟩ :: l) env σ Q = callK F (eVal env f) (eVals env args) σ (opsK F d env l Q) := propext ⟨fun h => h, fun h => h⟩
theorem aOps_invoke (x : Operand) (cs : List (TypeId × FuncId)) (args : List Operand) : wpOps F (⟨d, .invoke x cs args, none⟩ :: l) env σ Q = invokeK F (eVal env x) cs (eVals env args) σ (opsK F d env l Q) := propext ⟨fun h => h, fun h => h⟩
theorem aOps_guard (op : AOp) (t : Nat) (w : Bool) : wpOps F (⟨d, op, some (t, w)⟩ :: l) env σ Q =
    guardB (eGet env t) fun b => (b = w → wpOps F (⟨d, op, none⟩ :: l) ((t, .bool w) :: env) σ Q) ∧ (b = !w → wpOps F l (ePut ((t, .bool !w) :: env) d undef) σ Q) := propext ⟨fun h => h, fun h => h⟩
theorem guardB_some (b : Bool) (K : Bool → Prop) : guardB (some (.bool b)) K = K b := propext ⟨fun h => h, fun h => h⟩
theorem aDraw_nil : wpDraw F [] env σ Q = Q env σ := propext ⟨fun h => h, fun h => h⟩
theorem aDraw_cons (i : Nat) (o : AOper) (ag : List AOper) (r : List DOper) : wpDraw F (⟨i, o, ag⟩ :: r) env σ Q = wpOps F [o] env σ (drawK F ag r Q) := propext ⟨fun h => h, fun h => h⟩
theorem drawK_eq (ag : List AOper) (r : List DOper) : drawK F ag r Q env σ = (wpAgain env σ ag ∧ wpDraw F r env σ Q) := propext ⟨fun h => h, fun h => h⟩
theorem opsK_eq (v : Value) : opsK F d env l Q v σ = wpOps F l (ePut env d v) σ Q := propext ⟨fun h => h, fun h => h⟩
theorem aOpt_some (v : Value) (K : Value → AW → Prop) : wpOpt (some (v, σ)) K = K v σ := propext ⟨fun h => h, fun h => h⟩
theorem aOpt_ite (c : Prop) [Decidable c] (x : Option (Value × AW)) (K : Value → AW → Prop) : wpOpt (if c then x else none) K = (c ∧ wpOpt x K) := by
  by_cases h : c <;> simp [h, wpOpt]
def seqC (b : ACode) (Q : AExit → Env → AW → Prop) : AExit → Env → AW → Prop := seqK (fun env σ => wp F m b env σ Q) Q
theorem aw_seq (a b : ACode) (Q : AExit → Env → AW → Prop) : wp F m (.seq a b) env σ Q = wp F m a env σ (seqC F m b Q) := propext ⟨fun h => h, fun h => h⟩
theorem seqC_normal (b : ACode) (Q : AExit → Env → AW → Prop) : seqC F m b Q .normal env σ = wp F m b env σ Q := propext ⟨fun h => h, fun h => h⟩
theorem seqC_exit (b : ACode) (Q : AExit → Env → AW → Prop) (id : Nat) : seqC F m b Q (.exit id) env σ = Q (.exit id) env σ := propext ⟨fun h => h, fun h => h⟩
theorem seqC_ret (b : ACode) (Q : AExit → Env → AW → Prop) : seqC F m b Q .ret env σ = Q .ret env σ := propext ⟨fun h => h, fun h => h⟩
theorem aw_ops (Q : AExit → Env → AW → Prop) : wp F m (.ops l) env σ Q = wpOps F l env σ (Q .normal) := propext ⟨fun h => h, fun h => h⟩
theorem aw_draw (l : List DOper) (Q : AExit → Env → AW → Prop) : wp F m (.draw l) env σ Q = wpDraw F l env σ (Q .normal) := propext ⟨fun h => h, fun h => h⟩
theorem aw_skip (Q : AExit → Env → AW → Prop) : wp F m .skip env σ Q = Q .normal env σ := propext ⟨fun h => h, fun h => h⟩
theorem aw_exit (id : Nat) (Q : AExit → Env → AW → Prop) : wp F m (.exit id) env σ Q = Q (.exit id) env σ := propext ⟨fun h => h, fun h => h⟩
theorem aw_ret (Q : AExit → Env → AW → Prop) : wp F m .ret env σ Q = Q .ret env σ := propext ⟨fun h => h, fun h => h⟩
theorem aw_label (k : Nat) (Q : AExit → Env → AW → Prop) : wp F m (.label k) env σ Q = Q .normal env σ := propext ⟨fun h => h, fun h => h⟩
theorem aw_scope (b : ACode) (Q : AExit → Env → AW → Prop) : wp F m (.scope b) env σ Q = wp F m b env σ Q := propext ⟨fun h => h, fun h => h⟩
theorem aw_block (id : Nat) (b : ACode) (Q : AExit → Env → AW → Prop) : wp F m (.block id b) env σ Q = wp F m b env σ (blockK id Q) := propext ⟨fun h => h, fun h => h⟩
theorem blockK_normal (id : Nat) (Q : AExit → Env → AW → Prop) : blockK id Q .normal env σ = Q .normal env σ := propext ⟨fun h => h, fun h => h⟩
theorem blockK_ret (id : Nat) (Q : AExit → Env → AW → Prop) : blockK id Q .ret env σ = Q .ret env σ := propext ⟨fun h => h, fun h => h⟩
theorem blockK_exit (id id' : Nat) (Q : AExit → Env → AW → Prop) : blockK id Q (.exit id') env σ = if id' = id then Q .normal env σ else Q (.exit id') env σ := propext ⟨fun h => h, fun h => h⟩
theorem aw_cond (c : Operand) (a b : ACode) (Q : AExit → Env → AW → Prop) : wp F m (.cond c a b) env σ Q = condK F m (eVal env c) a b env σ Q := propext ⟨fun h => h, fun h => h⟩
theorem condK_some (t : Bool) (a b : ACode) (Q : AExit → Env → AW → Prop) : condK F m (some (.bool t)) a b env σ Q = ((t = true → wp F m a env σ Q) ∧ (t = false → wp F m b env σ Q)) := propext ⟨fun h => h, fun h => h⟩
theorem callK_some (fv : Value) (vs : List Value) (K : Value → AW → Prop) : callK F (some fv) (some vs) σ K = callVA F fv vs σ K := propext ⟨fun h => h, fun h => h⟩
theorem callVA_func (f : FuncId) (a b : Array Value) (vs : List Value) (K : Value → AW → Prop) : callVA F (.func (.func f) a b) vs σ K = ACall F f (a.toList ++ vs ++ b.toList) σ K := propext ⟨fun h => h, fun h => h⟩

end

section
variable {F : FuncId → Option AFunc} {m : Nat}

/-! ### What a result may say -/

def shift (base : Nat) (nx : Nat) (b : Nat) : Nat := if b < base then b else b - base + nx

/-- A result that holds no new address: the memory is as it was. -/
theorem Fin.same {v : Value} {σ0 σ : AW} {Q : Value → AW → Prop} (hw : WfH σ0) (hle : σ0.next ≤ σ.next) (hk : ∀ b o, σ0.heap.get b = some o → σ.heap.get b = some o) (hv : WfV σ0.next v) (hq : Q v σ0) : Fin σ0.next v σ Q := by
  have hs : ∀ b, b < σ0.next → shift σ0.next σ.next b = b := fun b hb => by simp [shift, hb]
  have hs' : ∀ b, b < σ0.next → (fun b => b) b = shift σ0.next σ.next b := fun b hb => (hs b hb).symm
  refine .to (shift σ0.next σ.next) v σ0 ?_ hs ⟨fun b hb => ?_, fun k => ?_, fun b o hb => ?_, fun b b' o o' hb hb' e => ?_, fun b o hb => ?_⟩ hw hv (Nat.le_refl _) hq
  · rw [← hv _ _ hs', ren_id]
  · cases hg : σ0.heap.get b with
    | none => rfl
    | some o => exact absurd (hw.lt b o hg) (by omega)
  · show (if σ0.next + k < σ0.next then _ else σ0.next + k - σ0.next + σ.next) = _
    rw [if_neg (by omega)]; omega
  · rw [hs b (hw.lt b o hb), hk b o hb, ← (hw.obj b o hb).agree hs', renO_id]
  · rw [hs b (hw.lt b o hb), hs b' (hw.lt b' o' hb')] at e; exact e
  · rw [hs b (hw.lt b o hb)]; exact Nat.lt_of_lt_of_le (hw.lt b o hb) hle

/-- A result with one new block. -/
def shift1 (base bR : Nat) (nx : Nat) (b : Nat) : Nat := if b < base then b else if b = base then bR else b - base - 1 + nx

theorem Fin.one {v v2 : Value} {σ0 σ : AW} {Q : Value → AW → Prop} (bR : Nat) (o : AObj) (hw : WfH σ0) (hk : ∀ b o, σ0.heap.get b = some o → σ.heap.get b = some o) (hR : σ.heap.get bR = some o) (hR1 : σ0.next ≤ bR) (hR2 : bR < σ.next) (ho : WfO σ0.next o)
    (hv : v = ren (shift1 σ0.next bR σ.next) v2) (hv2 : WfV (σ0.next + 1) v2) (hq : Q v2 (σ0.push o)) : Fin σ0.next v σ Q := by
  have hs : ∀ b, b < σ0.next → shift1 σ0.next bR σ.next b = b := fun b hb => by simp [shift1, hb]
  have hs0 : shift1 σ0.next bR σ.next σ0.next = bR := by simp [shift1]
  have hs' : ∀ b, b < σ0.next → (fun b => b) b = shift1 σ0.next bR σ.next b := fun b hb => (hs b hb).symm
  have hwp : WfH (σ0.push o) := hw.push (ho.mono (Nat.le_succ _))
  refine .to (shift1 σ0.next bR σ.next) v2 (σ0.push o) hv hs ⟨fun b hb => ?_, fun k => ?_, fun b o1 hb => ?_, fun b b' o1 o2 hb hb' e => ?_, fun b o1 hb => ?_⟩ hwp hv2 (Nat.le_succ _) hq
  · cases hg : (σ0.push o).heap.get b with
    | none => rfl
    | some o1 => exact absurd (hwp.lt b o1 hg) (by omega)
  · show (if σ0.next + 1 + k < σ0.next then _ else if σ0.next + 1 + k = σ0.next then bR else σ0.next + 1 + k - σ0.next - 1 + σ.next) = _
    rw [if_neg (by omega), if_neg (by omega)]; omega
  · rw [h_push_get] at hb
    split at hb
    · rename_i e; subst e; cases hb
      rw [hs0, hR, ← ho.agree hs', renO_id]
    · rw [hs b (hw.lt b o1 hb), hk b o1 hb, ← (hw.obj b o1 hb).agree hs', renO_id]
  · rw [h_push_get] at hb hb'
    split at hb <;> split at hb'
    · omega
    · rename_i e1 e2; subst e1
      have := hw.lt b' o2 hb'
      rw [hs0, hs b' this] at e; omega
    · rename_i e1 e2; subst e2
      have := hw.lt b o1 hb
      rw [hs0, hs b this] at e; omega
    · rw [hs b (hw.lt b o1 hb), hs b' (hw.lt b' o2 hb')] at e; exact e
  · rw [h_push_get] at hb
    split at hb
    · rename_i e; subst e; rw [hs0]; exact hR2
    · rw [hs b (hw.lt b o1 hb)]; have := hw.lt b o1 hb; omega

end
end Go.AM
