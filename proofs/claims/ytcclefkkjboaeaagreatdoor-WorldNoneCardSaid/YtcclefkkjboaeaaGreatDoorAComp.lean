/- From a function's code to its compiled form. -/
import Derived.Test.YtcclefkkjboaeaaGreatDoorAMach
import GoSem.Core.Region

namespace Go.AM
open Go

def scalarOk : Value → Bool
  | .bool _ | .int _ _ | .string _ | .pointer none | .slice none 0 0 | .map none | .nilFunc | .nilIface => true
  | _ => false

def constOk : Value → Bool
  | .agg cs => cs.toList.all scalarOk
  | .tuple cs => cs.toList.all scalarOk
  | v => scalarOk v

def opdOk : Operand → Bool
  | .const v => constOk v
  | .global g => Nat.blt g 1
  | _ => true

section
variable (P : Program) (mts : List TypeId)

def sizeT (t : TypeId) : Option Nat := (P.info? t).map (·.size)
def bytesT (t : TypeId) : Option Nat := (P.info? t).map (·.bytes)
def zeroT (t : TypeId) : Option Value := (P.info? t).bind fun i => i.zero.bind fun z => bif constOk z then some z else none
def aggT (t : TypeId) : Option Bool := (P.underlying t).map fun
  | .struct _ | .array _ _ => true
  | _ => false

def pkD : TypeDesc → Option PK
  | .bool => some .bool
  | .int _ => some .int
  | .string => some .str
  | _ => none

def pkT (t : TypeId) : Option PK := (P.underlying t).bind pkD

/-- The kinds of a struct's parts, where these are integers, strings, bools, one behind the other. -/
def flatF (fl : TypeId → Option (List PK)) : Nat → List Field → Option (List PK)
  | _, [] => some []
  | m, f :: rest =>
    bif f.name != "_" && Nat.beq f.offset m then
      match P.underlying f.type, sizeT P f.type with
      | some (.struct _), some s => match fl f.type, flatF fl (m + s) rest with
        | some ks, some ls => bif Nat.beq ks.length s then some (ks ++ ls) else none
        | _, _ => none
      | some d, some s => match pkD d, flatF fl (m + 1) rest with
        | some k, some ls => bif Nat.beq s 1 then some (k :: ls) else none
        | _, _ => none
      | _, _ => none
    else none

def flat : Nat → TypeId → Option (List PK)
  | 0, _ => none
  | n + 1, t => match P.underlying t with
    | some (.struct fs) => bif !P.stoodInHeld t then flatF P (flat n) 0 fs.toList else none
    | _ => none

def eqT (t : TypeId) : Option EqT :=
  match P.underlying t with
  | some .bool => some (.prim .bool)
  | some (.int _) => some (.prim .int)
  | some .string => some (.prim .str)
  | some (.pointer _) => some .ptr
  | some (.slice _) => some .slice
  | some (.interface _) => some .iface
  | some (.struct _) => bif !P.eqGuardType P.depth t then (flat P 8 t).map .agg else none
  | _ => none

def methodAt (t : TypeId) (name : String) : Option FuncId :=
  match P.underlying t, P.info? t with
  | some (.pointer _), some i => match i.methods.find? (·.name == name) with
    | some m => match m.path.toList, m.func with
      | [], some (f, true) => some f
      | _, _ => none
    | none => none
  | _, _ => none

def casesOf (name : String) : List TypeId → List (TypeId × FuncId)
  | [] => []
  | t :: ts => match methodAt P t name with
    | some f => (t, f) :: casesOf name ts
    | none => casesOf name ts

def partsOf (places : Nat → Option (Nat × Nat)) : List (Nat × Operand) → Option (List (Nat × Nat × Operand))
  | [] => some []
  | (i, x) :: rest => match places i, partsOf places rest with
    | some (o, s), some ps => bif opdOk x then some ((o, s, x) :: ps) else none
    | _, _ => none

def fieldAtT (t : TypeId) (i : Nat) : Option Field :=
  match P.underlying t with
  | some (.struct fs) => fs[i]?
  | _ => none

def repl (n : Nat) (z : List Value) : List Value := (List.replicate n z).flatten

def isIntD : TypeDesc → Bool
  | .int _ => true
  | _ => false

def compBuiltin (b : Builtin) (tys : Array TypeId) (args : List Operand) : Option AOp :=
  match b, args with
  | .len, [x] => match (tys[0]?).bind P.underlying with
    | some .string => some (.lenStr x)
    | some (.slice _) => some (.lenSl x)
    | some (.map _ _) => some (.lenMap x)
    | _ => none
  | .append, [s, x] => match (tys[0]?).bind P.underlying with
    | some (.slice e) => match sizeT P e, bytesT P e, zeroT P e, (tys[1]?).bind P.underlying with
      | some n, some m, some z, some u => bif lenIs (vcells z) n && !isIntD u then some (.append e n m s x) else none
      | _, _, _, _ => none
    | _ => none
  | .copy, [d, s] => match (tys[0]?).bind P.underlying with
    | some (.slice e) => (sizeT P e).map fun n => .copy n d s
    | _ => none
  | .clear, [s] => match (tys[0]?).bind P.underlying with
    | some (.slice e) => (zeroT P e).map fun z => .clear (vcells z) s
    | _ => none
  | .delete, [m, k] => match (tys[0]?).bind P.underlying with
    | some (.map kt _) => (pkT P kt).map fun pk => .delete pk m k
    | _ => none
  | .min, x :: rest => some (.minmax false x rest)
  | .max, x :: rest => some (.minmax true x rest)
  | _, _ => none

def compOp0 (op : Op) : Option AOp :=
  match op with
  | .move x | .assign x => some (.mov x)
  | .pick c a b => some (.pick c a b)
  | .alloc e => (zeroT P e).map fun z => .alloc e (vcells z)
  | .box e x => some (.box e x)
  | .build t parts => match P.underlying t, zeroT P t with
    | some (.struct fs), some z => match fs.toList.mapM (fun f => (P.info? f.type).map fun i => (f.offset, i.size)) with
      | some places => (partsOf (places[·]?) parts.toList).map fun ps => .build (vcells z) ps
      | none => none
    | some (.array _ e), some z => match sizeT P e with
      | some s => (partsOf (fun i => some (i * s, s)) parts.toList).map fun ps => .build (vcells z) ps
      | none => none
    | _, _ => none
  | .buildSlice t len parts => match P.underlying t with
    | some (.slice e) => match sizeT P e, zeroT P e with
      | some s, some z => bif Nat.ble (len * s) (2 ^ 24) && lenIs (vcells z) s then
          (partsOf (fun i => some (i * s, s)) parts.toList).map fun ps => .buildSlice e len (repl len (vcells z)) ps
        else none
      | _, _ => none
    | _ => none
  | .load t a => match aggT P t, sizeT P t with
    | some true, some n => some (.loadN n a)
    | some false, _ => some (.load1 a)
    | _, _ => none
  | .store t a x => (sizeT P t).map fun n => .store n a x
  | .nilCheck x => some (.nilCheck x)
  | .binOp op t x y _ => match op with
    | .eql | .neq => (eqT P t).map fun e => .bin op e x y
    | _ => match P.underlying t with
      | some (.int _) | some .string => some (.bin op (.prim .int) x y)
      | _ => none
  | .unOp op _ x => some (.un op x)
  | .convert src dst x => match P.underlying src, P.underlying dst with
    | some (.int _), some (.int k) => some (.convInt k x)
    | some .string, some .string => some (.convStr x)
    | some (.slice e), some .string => match P.underlying e with
      | some (.int .u8) => some (.convBytesStr x)
      | _ => none
    | some .string, some (.slice e) => match P.underlying e with
      | some (.int .u8) => some (.convStrBytes e x)
      | _ => none
    | _, _ => none
  | .makeInterface t x => match P.underlying t with
    | some (.interface _) => none
    | some _ => some (.makeIface t x)
    | none => none
  | .makeFunc fn a b => match fn with
    | .func f => some (.makeFunc f a.toList b.toList)
    | _ => none
  | .makeMap _ r => match r with
    | none => some .makeMap
    | some _ => none
  | .makeSlice t l c => match P.underlying t with
    | some (.slice e) => match sizeT P e, bytesT P e, zeroT P e with
      | some n, some m, some z => bif lenIs (vcells z) n then some (.makeSlice e n m (vcells z) l c) else none
      | _, _, _ => none
    | _ => none
  | .slice t x lo hi mx => match P.underlying t with
    | some .string => some (.slice .str x lo hi mx)
    | some (.slice e) => (sizeT P e).map fun n => .slice (.sl n) x lo hi mx
    | some (.array n e) => (sizeT P e).map fun s => .slice (.arr n s) x lo hi mx
    | _ => none
  | .fieldAddr t x i => match fieldAtT P t i with
    | some f => match sizeT P f.type with
      | some (_ + 1) => some (.fieldAddr f.offset x)
      | _ => none
    | none => none
  | .field t x i => match fieldAtT P t i with
    | some f => match aggT P f.type, sizeT P f.type with
      | some g, some n => some (.field g f.offset n x)
      | _, _ => none
    | none => none
  | .indexAddr t x i => match P.underlying t with
    | some (.array n e) => (sizeT P e).map fun s => .indexAddrArr n s x i
    | some (.slice e) => (sizeT P e).map fun s => .indexAddrSl s x i
    | _ => none
  | .index t x i => match P.underlying t with
    | some .string => some (.indexStr x i)
    | some (.array n e) => match aggT P e, sizeT P e with
      | some g, some s => some (.indexArr g n s x i)
      | _, _ => none
    | _ => none
  | .lookup t m k ok => match P.underlying t with
    | some (.map kt e) => match pkT P kt, zeroT P e with
      | some pk, some z => some (.lookup pk z ok m k)
      | _, _ => none
    | _ => none
  | .mapUpdate t m k x => match P.underlying t with
    | some (.map kt _) => (pkT P kt).map fun pk => .mapUpdate pk m k x
    | _ => none
  | .extract x i => some (.extract x i)
  | .call c => match c.callee with
    | .value f => some (.call f c.args.toList)
    | .invoke r name => some (.invoke r (casesOf P name mts) c.args.toList)
    | .builtin b => compBuiltin P b c.argTypes c.args.toList
  | _ => none

def compOp (op : Op) : Option AOp := bif op.operands.toList.all opdOk then compOp0 P mts op else none

def guardOf (ops : Array Oper) : Option (Nat × Bool) → Option (Option (Nat × Bool))
  | none => some none
  | some (j, want) => match (ops[j]?).bind (·.dst) with
    | some t => some (some (t, want))
    | none => none

def compOper (ntmps : Nat) (ops : Array Oper) (o : Oper) : Option AOper :=
  match compOp P mts o.op, guardOf ops o.guard with
  | some op, some g => match o.dst with
    | none => some { dst := none, op, guard := g }
    | some d => bif Nat.blt d ntmps then some { dst := some d, op, guard := g } else none
  | _, _ => none

def compOpers (ntmps : Nat) (ops : Array Oper) : List Oper → Option (List AOper)
  | [] => some []
  | o :: l => match compOper P mts ntmps ops o, compOpers ntmps ops l with
    | some a, some as => some (a :: as)
    | _, _ => none

/-- What an operation does with the memory: nothing; it reads; it makes; it acts. -/
inductive Cls where
  | pure | read | make | act

def clsOf : AOp → Cls
  | .store .. | .call .. | .invoke .. | .append .. | .copy .. | .clear .. | .delete .. | .mapUpdate .. | .convStrBytes .. => .act
  | .alloc .. | .box .. | .buildSlice .. | .makeMap | .makeSlice .. => .make
  | .load1 .. | .loadN .. | .lookup .. | .lenMap .. | .convBytesStr .. | .slice (.sl _) .. => .read
  | _ => .pure

def isAct (o : AOper) : Bool := match clsOf o.op with | .act => true | _ => false
def isRead (o : AOper) : Bool := match clsOf o.op with | .read => true | _ => false

/-- How many of the actions stand ahead of an operation. -/
def actsIn (acts : List Nat) (b : Nat) : Nat := (acts.filter fun e => b.testBit e).length

def againOf (as : List AOper) (before : Array Nat) (acts : List Nat) (e slot : Nat) : List Nat :=
  (as.zipIdx.filter fun (o, i) => isRead o && Nat.blt (actsIn acts (before.getD i 0)) (slot + 1) && !(before.getD e 0).testBit i).map (·.2)

def slotOf (as : List AOper) (before : Array Nat) (acts : List Nat) (k : Nat) : List (Nat × List Nat) :=
  (as.zipIdx.filter fun (o, i) => !isAct o && Nat.beq (actsIn acts (before.getD i 0)) k).map fun (_, i) => (i, [])

def orderOf (as : List AOper) (before : Array Nat) (acts : List Nat) : List Nat → Nat → List (Nat × List Nat)
  | [], k => slotOf as before acts k
  | e :: es, k => slotOf as before acts k ++ (e, againOf as before acts e k) :: orderOf as before acts es (k + 1)

def pickAll (as : List AOper) : List Nat → Option (List AOper)
  | [] => some []
  | i :: l => match as[i]?, pickAll as l with
    | some o, some os => some (o :: os)
    | _, _ => none

def planOf (as : List AOper) : List (Nat × List Nat) → Option (List DOper)
  | [] => some []
  | (i, ag) :: l => match as[i]?, pickAll as ag, planOf as l with
    | some o, some os, some ds => some ({ idx := i, op := o, again := os } :: ds)
    | _, _, _ => none

/-- The operations ahead of which an operation cannot stand. -/
def edges (ops : Array Oper) (i : Nat) : List Nat :=
  match ops[i]? with
  | some o => (o.after.toList.filter (Region.binds .any)).map (·.on)
  | none => []

def tmpsIn : List Operand → List Nat
  | [] => []
  | .tmp t :: l => t :: tmpsIn l
  | _ :: l => tmpsIn l

def guardTmp : Option (Nat × Bool) → List Nat
  | some (t, _) => [t]
  | none => []

/-- What an operation looks at. -/
def looks (ops : Array Oper) (as : List AOper) (i : Nat) : List Nat :=
  match ops[i]?, as[i]? with
  | some o, some ao => guardTmp ao.guard ++ tmpsIn o.op.operands.toList
  | _, _ => []

/-- What an operation that reads looks at. -/
def rdOpds : AOp → List Operand
  | .load1 a | .loadN _ a => [a]
  | .lookup _ _ _ m k => [m, k]
  | .lenMap x | .convBytesStr x => [x]
  | .slice _ x lo hi mx => x :: (lo.toList ++ hi.toList ++ mx.toList)
  | _ => []

def dstOf (as : List AOper) (i : Nat) : Option Nat := (as[i]?).bind (·.dst)
def actAt (as : List AOper) (i : Nat) : Bool := match as[i]? with
  | some o => isAct o
  | none => true
def readAt (as : List AOper) (i : Nat) : Bool := match as[i]? with
  | some o => isRead o
  | none => false

def bit (before : Array Nat) (i j : Nat) : Bool := (before.getD i 0).testBit j

/-- Nothing that this operation (it reads) looks at is written behind it. -/
def noWar (as : List AOper) (before : Array Nat) (n i : Nat) : Bool :=
  match as[i]? with
  | some o => (List.range n).all fun j => match dstOf as j with
    | some t => !(guardTmp o.guard ++ tmpsIn (rdOpds o.op)).contains t || (bit before i j && !Nat.beq i j)
    | none => true
  | none => false

def ordAt (l : List (Nat × List Nat)) (p n : Nat) : Nat := match l[p]? with
  | some (i, _) => i
  | none => n

def planOk (ops : Array Oper) (as : List AOper) (before : Array Nat) (l : List (Nat × List Nat)) (n : Nat) : Bool :=
  let r := List.range n
  Nat.beq ops.size n && (Nat.beq as.length n && (Nat.beq l.length n &&
  (r.all (fun i => r.any fun p => Nat.beq (ordAt l p n) i) &&
  (r.all (fun p => (List.range p).all fun q => !Nat.beq (ordAt l q n) (ordAt l p n)) &&
  (r.all (fun p => (edges ops (ordAt l p n)).all fun j => (List.range p).any fun q => Nat.beq (ordAt l q n) j) &&
  (r.all (fun p => (List.range p).all fun q => !actAt as (ordAt l q n) || bit before (ordAt l p n) (ordAt l q n)) &&
  (r.all (fun i => r.all fun j => !bit before i j || (edges ops i).any fun e => Nat.beq e j || bit before e j) &&
  (r.all (fun i => r.all fun j => Nat.beq i j || (match dstOf as j with
    | some t => !(looks ops as i).contains t || (bit before i j || bit before j i)
    | none => true)) &&
  (r.all (fun i => r.all fun j => Nat.beq i j || (match dstOf as i, dstOf as j with
    | some t, some u => !Nat.beq t u
    | _, _ => true)) &&
  (r.all (fun p => match l[p]? with
    | some (e, ag) => ag.all (fun i => readAt as i && noWar as before n i) &&
      (!actAt as e || (List.range p).all fun q => !readAt as (ordAt l q n) || bit before e (ordAt l q n) || ag.contains (ordAt l q n))
    | none => false)))))))))))

def compDraw (ops : Array Oper) (as : List AOper) : Option ACode :=
  let before := Region.before ops
  let acts := (as.zipIdx.filter fun (o, _) => isAct o).map (·.2)
  let l := orderOf as before acts acts 0
  bif planOk ops as before l ops.size then (planOf as l).map .draw else none

def compCode (ntmps : Nat) : Code → Option ACode
  | .skip => some .skip
  | .region _ ops draw => match compOpers P mts ntmps ops ops.toList with
    | some as => bif draw then compDraw ops as else some (.ops as)
    | none => some .bad
  | .seq a b => match compCode ntmps a, compCode ntmps b with
    | some a, some b => some (.seq a b)
    | _, _ => none
  | .cond c a b => bif opdOk c then match compCode ntmps a, compCode ntmps b with
    | some a, some b => some (.cond c a b)
    | _, _ => none
    else none
  | .block id a => (compCode ntmps a).map (.block id)
  | .loop a => (compCode ntmps a).map .loop
  | .rangeFunc f ps a b => bif opdOk f && ps.toList.all (Nat.blt · ntmps) then match compCode ntmps a, compCode ntmps b with
    | some a, some b => some (.rangeFunc f ps.toList a b)
    | _, _ => none
    else none
  | .exit id => some (.exit id)
  | .scope a => (compCode ntmps a).map .scope
  | .label l => some (.label l)
  | .ret => some .ret
  | _ => none

def compResult (ntmps : Nat) : ResultVar → Option AResult
  | .tmp t => bif Nat.blt t ntmps then some (.tmp t) else none
  | .cell a t => bif Nat.blt a ntmps then match aggT P t, sizeT P t with
    | some true, some n => some (.cellN a n)
    | some false, _ => some (.cell1 a)
    | _, _ => none
    else none

def compResults (ntmps : Nat) : List ResultVar → Option (List AResult)
  | [] => some []
  | r :: rs => match compResult P ntmps r, compResults ntmps rs with
    | some a, some as => some (a :: as)
    | _, _ => none

def compFunc (f : Func) : Option AFunc :=
  match f.body with
  | some b => bif f.name != "runtime.NumGoroutine" then match compCode P mts f.ntmps b, compResults P f.ntmps f.results.toList with
    | some c, some rs => some { ntmps := f.ntmps, results := rs, body := c }
    | _, _ => none
    else none
  | none => none

end
end Go.AM
