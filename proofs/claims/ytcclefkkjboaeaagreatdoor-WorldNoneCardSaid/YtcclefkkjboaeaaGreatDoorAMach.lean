/- An abstract machine for the compiled form of Go functions: deterministic, with its own memory. -/
import GoSem.Dispatch
import GoSem.Machine.Frame

namespace Go.AM
open Go

/-! ## A finite map from numbers, as a binary tree -/

inductive T (α : Type) where
  | leaf
  | node (v : Option α) (l r : T α)

namespace T
variable {α : Type}

def get : T α → Nat → Option α
  | .leaf, _ => none
  | .node v l r, n => match n with
    | 0 => v
    | m + 1 => bif Nat.beq (m % 2) 0 then l.get (m / 2) else r.get (m / 2)

def val : T α → Option α
  | .leaf => none
  | .node v _ _ => v
def left : T α → T α
  | .leaf => .leaf
  | .node _ l _ => l
def right : T α → T α
  | .leaf => .leaf
  | .node _ _ r => r

def setF : Nat → T α → Nat → Option α → T α
  | 0, t, _, _ => t
  | f + 1, t, n, x => match n with
    | 0 => .node x t.left t.right
    | m + 1 => bif Nat.beq (m % 2) 0 then .node t.val (setF f t.left (m / 2) x) t.right
      else .node t.val t.left (setF f t.right (m / 2) x)

def put (t : T α) (n : Nat) (x : Option α) : T α := setF (n + 1) t n x
def set (t : T α) (n : Nat) (x : α) : T α := t.put n (some x)

theorem get_eq (t : T α) (n : Nat) : t.get n = match n with
    | 0 => t.val
    | m + 1 => bif Nat.beq (m % 2) 0 then t.left.get (m / 2) else t.right.get (m / 2) := by
  cases t with
  | leaf => cases n <;> simp [get, val, left, right]
  | node v l r => cases n <;> simp [get, val, left, right]

theorem get_setF (f : Nat) : ∀ (t : T α) (n : Nat) (x : Option α), n < f → ∀ k, (setF f t n x).get k = if k = n then x else t.get k := by
  induction f with
  | zero => intro t n x h; omega
  | succ f ih =>
    intro t n x h k
    cases n with
    | zero =>
      cases k with
      | zero => simp [setF, get]
      | succ k => rw [get_eq t]; simp [setF, get]
    | succ m =>
      have hm : m / 2 < f := by omega
      cases k with
      | zero =>
        rw [get_eq t]
        by_cases hb : Nat.beq (m % 2) 0 = true <;> simp [setF, hb, get]
      | succ k =>
        rw [get_eq t]
        by_cases hb : Nat.beq (m % 2) 0 = true
        · have hb' : m % 2 = 0 := by simpa using hb
          simp only [setF, hb, cond_true, get]
          by_cases hk : Nat.beq (k % 2) 0 = true
          · have hk' : k % 2 = 0 := by simpa using hk
            simp only [hk, cond_true]
            rw [ih _ _ _ hm]
            by_cases e : k = m
            · simp [e]
            · rw [if_neg (by omega), if_neg (by omega)]
          · have hk' : ¬ k % 2 = 0 := by simpa using hk
            simp only [hk, cond_false]
            rw [if_neg (by omega)]
        · have hb' : ¬ m % 2 = 0 := by simpa using hb
          simp only [setF, hb, cond_false, get]
          by_cases hk : Nat.beq (k % 2) 0 = true
          · have hk' : k % 2 = 0 := by simpa using hk
            simp only [hk, cond_true]
            rw [if_neg (by omega)]
          · have hk' : ¬ k % 2 = 0 := by simpa using hk
            simp only [hk, cond_false]
            rw [ih _ _ _ hm]
            by_cases e : k = m
            · simp [e]
            · rw [if_neg (by omega), if_neg (by omega)]

theorem get_put (t : T α) (n : Nat) (x : Option α) (k : Nat) : (t.put n x).get k = if k = n then x else t.get k :=
  get_setF _ _ _ _ (Nat.lt_succ_self n) _

theorem get_set (t : T α) (n : Nat) (x : α) (k : Nat) : (t.set n x).get k = if k = n then some x else t.get k :=
  get_put _ _ _ _

@[simp] theorem get_set_same (t : T α) (n : Nat) (x : α) : (t.set n x).get n = some x := by rw [get_set]; simp
theorem get_set_ne (t : T α) (n : Nat) (x : α) (k : Nat) (h : k ≠ n) : (t.set n x).get k = t.get k := by rw [get_set]; simp [h]

end T

/-! ## Code -/

inductive PK where
  | int
  | str
  | bool

inductive EqT where
  | prim (k : PK)
  | ptr
  | slice
  | iface
  | agg (ks : List PK)

inductive SlK where
  | str
  | sl (esz : Nat)
  | arr (n esz : Nat)

inductive AOp where
  | mov (x : Operand)
  | pick (c a b : Operand)
  | alloc (elem : TypeId) (zero : List Value)
  | box (elem : TypeId) (x : Operand)
  | build (zero : List Value) (parts : List (Nat × Nat × Operand))
  | buildSlice (elem : TypeId) (len : Nat) (zero : List Value) (parts : List (Nat × Nat × Operand))
  | load1 (a : Operand)
  | loadN (n : Nat) (a : Operand)
  | store (n : Nat) (a v : Operand)
  | nilCheck (x : Operand)
  | bin (op : BinOp) (eq : EqT) (x y : Operand)
  | un (op : UnOp) (x : Operand)
  | convInt (k : IntKind) (x : Operand)
  | convStr (x : Operand)
  | convBytesStr (x : Operand)
  | convStrBytes (elem : TypeId) (x : Operand)
  | makeIface (t : TypeId) (x : Operand)
  | makeFunc (fn : FuncId) (first captured : List Operand)
  | makeMap
  | makeSlice (elem : TypeId) (esz bytes : Nat) (zero : List Value) (l c : Operand)
  | slice (k : SlK) (x : Operand) (lo hi mx : Option Operand)
  | fieldAddr (off : Nat) (x : Operand)
  | field (agg : Bool) (off n : Nat) (x : Operand)
  | indexAddrArr (len esz : Nat) (x i : Operand)
  | indexAddrSl (esz : Nat) (x i : Operand)
  | indexStr (x i : Operand)
  | indexArr (agg : Bool) (len esz : Nat) (x i : Operand)
  | lookup (pk : PK) (zero : Value) (ok : Bool) (m k : Operand)
  | mapUpdate (pk : PK) (m k v : Operand)
  | extract (x : Operand) (i : Nat)
  | lenStr (x : Operand)
  | lenSl (x : Operand)
  | lenMap (x : Operand)
  | append (elem : TypeId) (esz bytes : Nat) (s x : Operand)
  | copy (esz : Nat) (d s : Operand)
  | clear (zero : List Value) (s : Operand)
  | delete (pk : PK) (m k : Operand)
  | minmax (isMax : Bool) (x : Operand) (rest : List Operand)
  | call (f : Operand) (args : List Operand)
  | invoke (recv : Operand) (cases : List (TypeId × FuncId)) (args : List Operand)

structure AOper where
  dst : Option Nat
  op : AOp
  guard : Option (Nat × Bool)

/-- An operation of a region whose order is drawn: its number there, and (for one that acts) what is looked at again behind it. -/
structure DOper where
  idx : Nat
  op : AOper
  again : List AOper

inductive ACode where
  | skip
  | ops (l : List AOper)
  | draw (l : List DOper)
  | seq (a b : ACode)
  | cond (c : Operand) (a b : ACode)
  | block (id : Nat) (body : ACode)
  | loop (body : ACode)
  | rangeFunc (f : Operand) (params : List Nat) (assign body : ACode)
  | exit (id : Nat)
  | scope (body : ACode)
  | label (l : Nat)
  | ret
  | bad

inductive AResult where
  | tmp (t : Nat)
  | cell1 (a : Nat)
  | cellN (a n : Nat)

structure AFunc where
  ntmps : Nat
  results : List AResult
  body : ACode

/-! ## Memory -/

structure ALoop where
  state : LoopState
  pending : Option ACode
  tmps : T Value
  params : List Nat
  assign : ACode
  body : ACode

inductive AObj where
  | cells (c : List Value) (elem : TypeId) (esz : Nat) (ro : Bool)
  | map (es : List MapEntry) (clock : Nat)
  | loop (l : ALoop)
  | dead

structure AW where
  heap : T AObj
  next : Nat

def AW.push (σ : AW) (o : AObj) : AW := { heap := σ.heap.set σ.next o, next := σ.next + 1 }
def AW.upd (σ : AW) (b : Nat) (o : AObj) : AW := { σ with heap := σ.heap.set b o }

def vcells : Value → List Value
  | .agg cs => cs.toList
  | v => [v]

def isCell : Value → Bool
  | .agg _ | .tuple _ => false
  | _ => true

def lenIs : List Value → Nat → Bool
  | [], 0 => true
  | _ :: l, n + 1 => lenIs l n
  | _, _ => false

def take? : Nat → List Value → Option (List Value)
  | 0, _ => some []
  | n + 1, x :: l => (take? n l).map (x :: ·)
  | _ + 1, [] => none

def AW.loadN (σ : AW) (a : Addr) (n : Nat) : Option (List Value) :=
  match a.spot, σ.heap.get a.block with
  | none, some (.cells c _ _ _) => take? n (c.drop a.off)
  | _, _ => none

def splice : List Value → Nat → List Value → Option (List Value)
  | c, 0, [] => some c
  | x :: c, o + 1, vs => (splice c o vs).map (x :: ·)
  | _ :: c, 0, v :: vs => (splice c 0 vs).map (v :: ·)
  | [], _, _ => none

def AW.storeN (σ : AW) (a : Addr) (vs : List Value) : Option AW :=
  match a.spot, σ.heap.get a.block with
  | none, some (.cells c e z false) =>
    bif vs.all isCell then (splice c a.off vs).map fun c' => σ.upd a.block (.cells c' e z false) else none
  | _, _ => none

def pureOf {α : Type} : Sem α → Option α
  | .pure a => some a
  | _ => none

/-! ## Operations -/

def primEq : PK → Value → Value → Option Bool
  | .int, .int k a, .int k' b => if k = k' then some (a == b) else none
  | .str, .string a, .string b => some (a == b)
  | .bool, .bool a, .bool b => some (a == b)
  | _, _, _ => none

def cellsEq : List PK → List Value → List Value → Option Bool
  | [], [], [] => some true
  | k :: ks, x :: xs, y :: ys => match primEq k x y with
    | some true => bif lenAre ks xs ys then cellsEq ks xs ys else none
    | some false => bif lenAre ks xs ys then some false else none
    | none => none
  | _, _, _ => none
where
  lenAre : List PK → List Value → List Value → Bool
    | [], [], [] => true
    | _ :: ks, _ :: xs, _ :: ys => lenAre ks xs ys
    | _, _, _ => false

def isConst : Operand → Bool
  | .const _ => true
  | _ => false

def aEq (eq : EqT) (cx : Bool) (x y : Value) : Option Bool :=
  match eq with
  | .prim k => primEq k x y
  | .ptr => match x, y with
    | .pointer none, .pointer b => some b.isNone
    | .pointer (some _), .pointer none => some false
    | _, _ => none
  | .slice => match x, y with
    | .slice none _ _, .slice b _ _ => some b.isNone
    | .slice (some _) _ _, .slice none _ _ => some false
    | _, _ => none
  | .iface => match x, y with
    | .nilIface, .nilIface => bif cx then some true else none
    | .nilIface, .iface _ _ => some false
    | .iface _ _, .nilIface => some false
    | _, _ => none
  | .agg ks => match x, y with
    | .agg xs, .agg ys => cellsEq ks xs.toList ys.toList
    | _, _ => none

def aCmp (op : BinOp) (b : Option Bool) : Option Value :=
  match op, b with
  | .eql, some b => some (.bool b)
  | .neq, some b => some (.bool !b)
  | _, _ => none

def aBin (op : BinOp) (eq : EqT) (cx : Bool) (x y : Value) : Option Value :=
  match x, y with
  | .int k a, .int k' b => match op with
    | .shl | .shr => pureOf (Op.shift op k a k' b)
    | .add | .sub | .mul => if k = k' then pureOf (Op.intArith op k a b) else none
    | .quo | .rem => if k = k' then pureOf (Op.intDiv op k a b) else none
    | .and | .or | .xor | .andNot => if k = k' then pureOf (Op.intBits op k a b) else none
    | _ => if k = k' then pureOf (Op.intCmp op a b) else none
  | .string a, .string b => pureOf (Op.stringOp op a b)
  | x, y => aCmp op (aEq eq cx x y)

def aIdx : Value → Option Int
  | .int _ i => some i
  | _ => none

def aBound (x : Option Value) (dflt most : Nat) : Option Nat :=
  match x with
  | none => some dflt
  | some (.int _ i) => if 0 ≤ i ∧ i ≤ most then some i.toNat else none
  | some _ => none

def aBounds (len cap : Nat) (lo hi mx : Option Value) : Option (Nat × Nat × Nat) :=
  match aBound mx cap cap with
  | none => none
  | some m => match (match hi, mx with | none, some _ => none | hi, _ => aBound hi len m) with
    | none => none
    | some h => match aBound lo 0 h with
      | none => none
      | some l => some (l, h, m)

def aPart (agg : Bool) (cs : List Value) (off n : Nat) : Option Value :=
  bif agg then (take? n (cs.drop off)).map fun l => .agg ⟨l⟩ else cs[off]?

def aFill (ev : Operand → Value) : List Value → List (Nat × Nat × Operand) → Option (List Value)
  | cs, [] => some cs
  | cs, (off, size, x) :: rest =>
    let vs := vcells (ev x)
    bif lenIs vs size then
      match splice cs off vs with
      | some cs' => aFill ev cs' rest
      | none => none
    else none

def aBytes : List Value → Option (List UInt8)
  | [] => some []
  | .int .u8 n :: l => (aBytes l).map (UInt8.ofNat n.toNat :: ·)
  | _ => none

def aFind (pk : PK) (k : Value) : List MapEntry → Nat → Option (Option (Nat × Value))
  | [], _ => some none
  | e :: es, i => match primEq pk k e.key with
    | some true => some (some (i, e.val))
    | some false => aFind pk k es (i + 1)
    | none => none

def maxBytes : Nat := 2 ^ 40

def aSrc (σ : AW) (esz : Nat) (x : Value) : Option (List Value) :=
  match x with
  | .slice none 0 _ => some []
  | .slice (some a) n _ => σ.loadN a (n * esz)
  | .string s => some (s.data.toList.map fun b => .int .u8 b.toNat)
  | _ => none

def aSrcLen : Value → Option Nat
  | .slice _ n _ => some n
  | .string s => some s.size
  | _ => none

/-- What becomes of the block of a slice that is appended to and moves: it may not be looked at again, if the new slice may stand there. -/
def aKill (σ : AW) (esz : Nat) (a : Addr) (cap : Nat) : Option AW :=
  match σ.heap.get a.block with
  | some (.cells c _ z ro) =>
    bif Nat.beq z 0 then some σ
    else bif Nat.beq z esz && !ro then (bif Nat.beq (a.off + cap * esz) c.length then some (σ.upd a.block .dead) else some σ)
    else none
  | _ => none

def aAppend (elem : TypeId) (esz bytes : Nat) (s x : Value) (σ : AW) : Option (Value × AW) :=
  match s, aSrcLen x, aSrc σ esz x with
  | .slice base len cap, some n, some new =>
    bif Nat.beq esz 0 then none else
    let need := len + n
    bif Nat.ble need cap then
      bif Nat.beq n 0 then some (.slice base need cap, σ) else
      match base with
      | some a => (σ.storeN (a.add (len * esz)) new).map fun σ' => (.slice base need cap, σ')
      | none => none
    else bif Nat.ble (need * (bytes + 1)) maxBytes && (new.all isCell && Nat.beq new.length (n * esz)) then
      match base with
      | none => bif Nat.beq len 0 then some (.slice (some ⟨σ.next, 0, none⟩) need need, σ.push (.cells new elem esz false)) else none
      | some a => match σ.loadN a (len * esz), aKill σ esz a cap with
        | some old, some σ' => some (.slice (some ⟨σ'.next, 0, none⟩) need need, σ'.push (.cells (old ++ new) elem esz false))
        | _, _ => none
    else none
  | _, _, _ => none

def aCopy (esz : Nat) (d s : Value) (σ : AW) : Option (Value × AW) :=
  match d, aSrcLen s with
  | .slice base dLen _, some sLen =>
    let n := Nat.min sLen dLen
    bif Nat.beq n 0 then some (goInt 0, σ) else
    match base, s with
    | some a, .slice (some b) _ _ => match σ.loadN b (n * esz) with
      | some cs => (σ.storeN a cs).map fun σ' => (goInt n, σ')
      | none => none
    | some a, .string str => bif Nat.beq esz 1 then (σ.storeN a ((str.extract 0 n).data.toList.map fun b => .int .u8 b.toNat)).map fun σ' => (goInt n, σ') else none
    | _, _ => none
  | _, _ => none

def aMinMax (isMax : Bool) : Value → List Value → Option Value
  | v, [] => some v
  | .int k x, .int k' y :: rest => if k = k' then aMinMax isMax (.int k (if isMax then (if y > x then y else x) else (if y < x then y else x))) rest else none
  | _, _ => none

def aSliceStr (x : Value) (lo hi mx : Option Value) : Option Value :=
  match x with
  | .string s => match mx, aBounds s.size s.size lo hi none with
    | none, some (l, h, _) => some (.string (s.extract l h))
    | _, _ => none
  | _ => none

def aSliceSl (σ : AW) (esz : Nat) (x : Value) (lo hi mx : Option Value) : Option Value :=
  match x with
  | .slice a len cap => match aBounds len cap lo hi mx with
    | some (l, h, m) => bif Nat.beq cap 0 then some (.slice a 0 0) else
      match a with
      | none => none
      | some a => match σ.heap.get a.block with
        | some (.cells _ _ z _) => bif Nat.beq z 0 || Nat.beq z esz then some (.slice (some (a.add (l * esz))) (h - l) (m - l)) else none
        | _ => none
    | none => none
  | _ => none

def aSliceArr (n esz : Nat) (x : Value) (lo hi mx : Option Value) : Option Value :=
  match x with
  | .pointer (some a) => match aBounds n n lo hi mx with
    | some (l, h, m) => some (.slice (some (a.add (l * esz))) (h - l) (m - l))
    | none => none
  | _ => none

/-- All operations but calls. -/
def aop (ev : Operand → Value) (op : AOp) (σ : AW) : Option (Value × AW) :=
  let v (x : Option Value) : Option (Value × AW) := x.map fun x => (x, σ)
  match op with
  | .mov x => some (ev x, σ)
  | .pick c a b => match ev c with
    | .bool t => some (bif t then ev a else ev b, σ)
    | _ => none
  | .alloc e z => some (.pointer (some ⟨σ.next, 0, none⟩), σ.push (.cells z e 0 false))
  | .box e x => some (.pointer (some ⟨σ.next, 0, none⟩), σ.push (.cells (vcells (ev x)) e 0 false))
  | .build z ps => (aFill ev z ps).map fun cs => (.agg ⟨cs⟩, σ)
  | .buildSlice e len z ps => (aFill ev z ps).map fun cs => (.slice (some ⟨σ.next, 0, none⟩) len len, σ.push (.cells cs e 0 false))
  | .load1 a => match ev a with
    | .pointer (some a) => match σ.loadN a 1 with
      | some [x] => some (x, σ)
      | _ => none
    | _ => none
  | .loadN n a => match ev a with
    | .pointer (some a) => (σ.loadN a n).map fun cs => (.agg ⟨cs⟩, σ)
    | _ => none
  | .store n a x => match ev a with
    | .pointer (some a) => bif lenIs (vcells (ev x)) n then (σ.storeN a (vcells (ev x))).map fun σ' => (undef, σ') else none
    | _ => none
  | .nilCheck x => match ev x with
    | .pointer (some a) => some (.pointer (some a), σ)
    | .iface t y => some (.iface t y, σ)
    | .func (.func f) a b => some (.func (.func f) a b, σ)
    | _ => none
  | .bin op eq x y => v (aBin op eq (isConst x || isConst y) (ev x) (ev y))
  | .un op x => v (pureOf (Op.unary op (ev x)))
  | .convInt k x => match ev x with
    | .int _ n => some (.int k (k.wrap n), σ)
    | _ => none
  | .convStr x => match ev x with
    | .string s => some (.string s, σ)
    | _ => none
  | .convBytesStr x => match ev x with
    | .slice none _ _ => some (.string .empty, σ)
    | .slice (some a) n _ => match σ.loadN a n with
      | some cs => (aBytes cs).map fun l => (.string ⟨⟨l⟩⟩, σ)
      | none => none
    | _ => none
  | .convStrBytes e x => match ev x with
    | .string s => some (.slice (some ⟨σ.next, 0, none⟩) s.size s.size, σ.push (.cells (s.data.toList.map fun b => .int .u8 b.toNat) e 1 false))
    | _ => none
  | .makeIface t x => some (.iface t (ev x), σ)
  | .makeFunc f a b => some (.func (.func f) ⟨a.map ev⟩ ⟨b.map ev⟩, σ)
  | .makeMap => some (.map (some σ.next), σ.push (.map [] 0))
  | .makeSlice e _ bytes z l c => match ev l, ev c with
    | .int _ l, .int _ c => if 0 ≤ l ∧ l ≤ c ∧ c * (bytes + 1) ≤ maxBytes then
        some (.slice (some ⟨σ.next, 0, none⟩) l.toNat c.toNat, σ.push (.cells (List.replicate c.toNat z).flatten e 0 false))
      else none
    | _, _ => none
  | .slice k x lo hi mx => match k with
    | .str => v (aSliceStr (ev x) (lo.map ev) (hi.map ev) (mx.map ev))
    | .sl esz => v (aSliceSl σ esz (ev x) (lo.map ev) (hi.map ev) (mx.map ev))
    | .arr n esz => v (aSliceArr n esz (ev x) (lo.map ev) (hi.map ev) (mx.map ev))
  | .fieldAddr off x => match ev x with
    | .pointer (some a) => some (.pointer (some (a.add off)), σ)
    | _ => none
  | .field agg off n x => match ev x with
    | .agg cs => v (aPart agg cs.toList off n)
    | _ => none
  | .indexAddrArr len esz x i => match ev x, aIdx (ev i) with
    | .pointer (some a), some i => if 0 ≤ i ∧ i < len then some (.pointer (some (a.add (i.toNat * esz))), σ) else none
    | _, _ => none
  | .indexAddrSl esz x i => match ev x, aIdx (ev i) with
    | .slice (some a) len _, some i => if 0 ≤ i ∧ i < len then some (.pointer (some (a.add (i.toNat * esz))), σ) else none
    | _, _ => none
  | .indexStr x i => match ev x, aIdx (ev i) with
    | .string s, some i => if 0 ≤ i then (s[i.toNat]?).map fun b => (.int .u8 b.toNat, σ) else none
    | _, _ => none
  | .indexArr agg len esz x i => match ev x, aIdx (ev i) with
    | .agg cs, some i => if 0 ≤ i ∧ i < len then v (aPart agg cs.toList (i.toNat * esz) esz) else none
    | _, _ => none
  | .lookup pk z ok m k => match ev m with
    | .map none => some (if ok then .tuple #[z, .bool false] else z, σ)
    | .map (some r) => match σ.heap.get r with
      | some (.map es _) => match aFind pk (ev k) es 0 with
        | some (some (_, x)) => some (if ok then .tuple #[x, .bool true] else x, σ)
        | some none => some (if ok then .tuple #[z, .bool false] else z, σ)
        | none => none
      | _ => none
    | _ => none
  | .mapUpdate pk m k x => match ev m with
    | .map (some r) => match σ.heap.get r with
      | some (.map es clock) => match aFind pk (ev k) es 0 with
        | some (some (i, _)) => some (undef, σ.upd r (.map (es.modify i fun e => { e with key := ev k, val := ev x }) clock))
        | some none => some (undef, σ.upd r (.map (es ++ [{ key := ev k, val := ev x, born := clock }]) (clock + 1)))
        | none => none
      | _ => none
    | _ => none
  | .extract x i => match ev x with
    | .tuple vs => (vs.toList[i]?).map fun x => (x, σ)
    | _ => none
  | .lenStr x => match ev x with
    | .string s => some (goInt s.size, σ)
    | _ => none
  | .lenSl x => match ev x with
    | .slice _ n _ => some (goInt n, σ)
    | _ => none
  | .lenMap x => match ev x with
    | .map none => some (goInt 0, σ)
    | .map (some r) => match σ.heap.get r with
      | some (.map es _) => some (goInt es.length, σ)
      | _ => none
    | _ => none
  | .append e esz bytes s x => aAppend e esz bytes (ev s) (ev x) σ
  | .copy esz d s => aCopy esz (ev d) (ev s) σ
  | .clear z s => match ev s with
    | .slice none _ _ => some (.tuple #[], σ)
    | .slice (some a) n _ => bif Nat.beq n 0 then some (.tuple #[], σ) else
      (σ.storeN a (List.replicate n z).flatten).map fun σ' => (.tuple #[], σ')
    | _ => none
  | .delete pk m k => match ev m with
    | .map none => some (.tuple #[], σ)
    | .map (some r) => match σ.heap.get r with
      | some (.map es clock) => match aFind pk (ev k) es 0 with
        | some (some (i, _)) => some (.tuple #[], σ.upd r (.map (es.eraseIdx i) clock))
        | some none => some (.tuple #[], σ)
        | none => none
      | _ => none
    | _ => none
  | .minmax isMax x rest => v (aMinMax isMax (ev x) (rest.map ev))
  | .call .. | .invoke .. => none

/-! ## Running -/

inductive AExit where
  | normal
  | exit (id : Nat)
  | ret

abbrev Res := Option (AExit × T Value × AW)
abbrev Exec := ACode → T Value → AW → Res

def aev (tm : T Value) : Operand → Value
  | .tmp t => (tm.get t).getD undef
  | .const v => v
  | .global g => .pointer (some ⟨g, 0, none⟩)
  | .func f => .func (.func f) #[] #[]

def wanted (tm : T Value) : Option (Nat × Bool) → Bool
  | none => true
  | some (t, want) => match tm.get t with
    | some (.bool b) => b == want
    | _ => false

def putD (tm : T Value) (dst : Option Nat) (v : Value) : T Value :=
  match dst with
  | some d => tm.set d v
  | none => tm

def aResult (tm : T Value) (σ : AW) : AResult → Option Value
  | .tmp t => some ((tm.get t).getD undef)
  | .cell1 a => match (tm.get a).getD undef with
    | .pointer (some a) => match σ.loadN a 1 with
      | some [x] => some x
      | _ => none
    | _ => none
  | .cellN a n => match (tm.get a).getD undef with
    | .pointer (some a) => (σ.loadN a n).map fun cs => .agg ⟨cs⟩
    | _ => none

def aResults (tm : T Value) (σ : AW) : List AResult → Option (List Value)
  | [] => some []
  | r :: rs => match aResult tm σ r, aResults tm σ rs with
    | some v, some vs => some (v :: vs)
    | _, _ => none

def packed : List Value → Value
  | [v] => v
  | vs => .tuple ⟨vs⟩

def argsOf : List Value → Nat → T Value → T Value
  | [], _, tm => tm
  | v :: vs, i, tm => argsOf vs (i + 1) (tm.set i v)

def setParams : List Nat → List Value → T Value → T Value
  | p :: ps, v :: vs, tm => setParams ps vs (tm.set p v)
  | _, _, tm => tm

section
variable (F : FuncId → Option AFunc) (ex : Exec)

def callF (f : FuncId) (args : List Value) (σ : AW) : Option (Value × AW) :=
  match F f with
  | none => none
  | some af =>
    bif Nat.ble args.length af.ntmps then
      match ex af.body (argsOf args 0 .leaf) σ with
      | some (.ret, tm, σ') | some (.normal, tm, σ') => (aResults tm σ' af.results).map fun vs => (packed vs, σ')
      | _ => none
    else none

def callV (f : Value) (args : List Value) (σ : AW) : Option (Value × AW) :=
  match f with
  | .func (.func f) first captured => callF F ex f (first.toList ++ args ++ captured.toList) σ
  | _ => none

def findCase (t : TypeId) : List (TypeId × FuncId) → Option FuncId
  | [] => none
  | (u, f) :: l => bif Nat.beq t u then some f else findCase t l

def aoper (ev : Operand → Value) (op : AOp) (σ : AW) : Option (Value × AW) :=
  match op with
  | .call f args => callV F ex (ev f) (args.map ev) σ
  | .invoke r cases args => match ev r with
    | .iface t v => match findCase t cases with
      | some f => callF F ex f (v :: args.map ev) σ
      | none => none
    | _ => none
  | op => aop ev op σ

def runOper (o : AOper) (tm : T Value) (σ : AW) : Option (T Value × AW) :=
  bif wanted tm o.guard then
    match aoper F ex (aev tm) o.op σ with
    | some (v, σ') => some (putD tm o.dst v, σ')
    | none => none
  else some (putD tm o.dst undef, σ)

def runOps : List AOper → T Value → AW → Option (T Value × AW)
  | [], tm, σ => some (tm, σ)
  | o :: l, tm, σ => match runOper F ex o tm σ with
    | some (tm', σ') => runOps l tm' σ'
    | none => none

end

mutual
def veq : Value → Value → Bool
  | .bool a, y => match y with
    | .bool b => a == b
    | _ => false
  | .int k a, y => match y with
    | .int k' b => k == k' && a == b
    | _ => false
  | .string a, y => match y with
    | .string b => decide (a = b)
    | _ => false
  | .pointer a, y => match y with
    | .pointer b => a == b
    | _ => false
  | .slice a n c, y => match y with
    | .slice b m d => a == b && Nat.beq n m && Nat.beq c d
    | _ => false
  | .map a, y => match y with
    | .map b => a == b
    | _ => false
  | .func f a b, y => match y with
    | .func g c d => f == g && veqA a c && veqA b d
    | _ => false
  | .nilFunc, y => match y with
    | .nilFunc => true
    | _ => false
  | .iface t a, y => match y with
    | .iface u b => Nat.beq t u && veq a b
    | _ => false
  | .nilIface, y => match y with
    | .nilIface => true
    | _ => false
  | .agg a, y => match y with
    | .agg b => veqA a b
    | _ => false
  | .tuple a, y => match y with
    | .tuple b => veqA a b
    | _ => false
  | _, _ => false
termination_by structural x => x
def veqA : Array Value → Array Value → Bool
  | ⟨l⟩, ⟨m⟩ => veqL l m
termination_by structural x => x
def veqL : List Value → List Value → Bool
  | [], m => match m with
    | [] => true
    | _ => false
  | x :: xs, m => match m with
    | y :: ys => veq x y && veqL xs ys
    | _ => false
termination_by structural x => x
end

mutual
theorem veq_eq : ∀ (x y : Value), veq x y = true → x = y
  | .bool a, y, h => by cases y <;> simp_all [veq]
  | .int k a, y, h => by cases y <;> simp_all [veq]
  | .string a, y, h => by cases y <;> simp_all [veq]
  | .pointer a, y, h => by cases y <;> simp_all [veq]
  | .slice a n c, y, h => by cases y <;> simp_all [veq]
  | .map a, y, h => by cases y <;> simp_all [veq]
  | .func f a b, y, h => by
    cases y with
    | func g c d =>
      simp only [veq, Bool.and_eq_true, beq_iff_eq] at h
      rw [h.1.1, veqA_eq _ _ h.1.2, veqA_eq _ _ h.2]
    | _ => simp [veq] at h
  | .nilFunc, y, h => by cases y <;> simp_all [veq]
  | .iface t a, y, h => by
    cases y with
    | iface u b =>
      simp only [veq, Bool.and_eq_true] at h
      rw [Nat.eq_of_beq_eq_true h.1, veq_eq _ _ h.2]
    | _ => simp [veq] at h
  | .nilIface, y, h => by cases y <;> simp_all [veq]
  | .agg a, y, h => by
    cases y with
    | agg b => simp only [veq] at h; rw [veqA_eq _ _ h]
    | _ => simp [veq] at h
  | .tuple a, y, h => by
    cases y with
    | tuple b => simp only [veq] at h; rw [veqA_eq _ _ h]
    | _ => simp [veq] at h
  | .float .., y, h => by simp [veq] at h
  | .complex .., y, h => by simp [veq] at h
  | .chan _, y, h => by simp [veq] at h
theorem veqA_eq : ∀ (x y : Array Value), veqA x y = true → x = y
  | ⟨l⟩, ⟨m⟩, h => by simp only [veqA] at h; rw [veqL_eq _ _ h]
theorem veqL_eq : ∀ (x y : List Value), veqL x y = true → x = y
  | [], m, h => by cases m <;> simp_all [veqL]
  | x :: xs, m, h => by
    cases m with
    | nil => simp [veqL] at h
    | cons y ys => simp only [veqL, Bool.and_eq_true] at h; rw [veq_eq _ _ h.1, veqL_eq _ _ h.2]
end

section
variable (F : FuncId → Option AFunc) (ex : Exec)

/-- A look at what an operation gave: it gives it still. -/
def runAgain : List AOper → T Value → AW → Bool
  | [], _, _ => true
  | o :: l, tm, σ =>
    (bif wanted tm o.guard then
      match aop (aev tm) o.op σ, o.dst with
      | some (v, _), some d => match tm.get d with
        | some v' => veq v v'
        | none => false
      | _, _ => false
    else true) && runAgain l tm σ

def runDraw : List DOper → T Value → AW → Option (T Value × AW)
  | [], tm, σ => some (tm, σ)
  | o :: l, tm, σ => match runOper F ex o.op tm σ with
    | some (tm', σ') => bif runAgain o.again tm' σ' then runDraw l tm' σ' else none
    | none => none

def execStep : Exec := fun c tm σ =>
  match c with
  | .skip => some (.normal, tm, σ)
  | .label _ => some (.normal, tm, σ)
  | .ops l => (runOps F ex l tm σ).map fun (tm, σ) => (.normal, tm, σ)
  | .draw l => (runDraw F ex l tm σ).map fun (tm, σ) => (.normal, tm, σ)
  | .seq a b => match ex a tm σ with
    | some (.normal, tm, σ) => ex b tm σ
    | r => r
  | .cond c a b => match aev tm c with
    | .bool t => bif t then ex a tm σ else ex b tm σ
    | _ => none
  | .block id b => match ex b tm σ with
    | some (.exit id', tm, σ) => bif Nat.beq id' id then some (.normal, tm, σ) else some (.exit id', tm, σ)
    | r => r
  | .loop b => match ex b tm σ with
    | some (.normal, tm, σ) => ex (.loop b) tm σ
    | r => r
  | .scope b => ex b tm σ
  | .exit id => some (.exit id, tm, σ)
  | .ret => some (.ret, tm, σ)
  | .bad => none
  | .rangeFunc f params assign body =>
    match callV F ex (aev tm f) [.func (.yield σ.next) #[] #[]] (σ.push (.loop { state := .ready, pending := none, tmps := tm, params, assign, body })) with
    | some (_, σ₂) => match σ₂.heap.get σ.next with
      | some (.loop L) => match L.state with
        | .busy => none
        | _ => match L.pending with
          | none => some (.normal, tm, σ₂.upd σ.next (.loop { L with state := .exhausted }))
          | some _ => none
      | _ => none
    | none => none

end

def exec (F : FuncId → Option AFunc) : Nat → Exec
  | 0 => fun _ _ _ => none
  | n + 1 => execStep F (exec F n)

def call (F : FuncId → Option AFunc) (n : Nat) (f : FuncId) (args : List Value) (σ : AW) : Option (Value × AW) :=
  callF F (exec F n) f args σ

end Go.AM
