/- The translation of the model's code into the clean machine's code. Conditions: none (definitions). -/
import Derived.Test.YtkjmelfgopammaaQqA
import GoSem.Core.View
namespace Go.Dp

/-- What the translation goes by: the program; which function of it is which of ours; which variable is which block. -/
structure Cx where
  P : Program
  fm : Nat → Option Nat
  gm : Nat → Option Nat
  /-- functions without a body: 1 IndexByteString, 2 NoEscape, 3 MakeNoZero -/
  ext : Nat → Nat
  /-- strings.Builder's type -/
  bt : Option TypeId

def trSc (c : Cx) : Value → Option AV
  | .bool b => some (.bool b)
  | .int k n => some (.int k n)
  | .string s => some (.str s.data.toList)
  | .pointer none => some .nilp
  | .slice none 0 0 => some .nils
  | .map none => some .nilm
  | .nilFunc => some .nilf
  | .nilIface => some .nili
  | .func (.func g) first caps => bif first.isEmpty && caps.isEmpty then (match c.fm g with
    | some f => some (.fn f [])
    | none => none) else none
  | _ => none

def trScs (c : Cx) : List Value → Option (List AV)
  | [] => some []
  | v :: vs => match trSc c v, trScs c vs with
    | some a, some as => some (a :: as)
    | _, _ => none

def trV (c : Cx) : Value → Option AV
  | .agg cs => match trScs c cs.toList with
    | some l => some (.agg l)
    | none => none
  | .tuple vs => bif vs.isEmpty then some (.tup []) else none
  | v => trSc c v

def trX (c : Cx) : Operand → Option X
  | .tmp t => some (.t t)
  | .const v => match trV c v with
    | some a => some (.c a)
    | none => none
  | .global g => match c.gm g with
    | some b => some (.c (.ptr b 0))
    | none => none
  | .func g => match c.fm g with
    | some f => some (.c (.fn f []))
    | none => none

def trXs (c : Cx) : List Operand → Option (List X)
  | [] => some []
  | x :: xs => match trX c x, trXs c xs with
    | some a, some as => some (a :: as)
    | _, _ => none

def trXo (c : Cx) : Option Operand → Option (Option X)
  | none => some none
  | some x => match trX c x with
    | some a => some (some a)
    | none => none

def Cx.size (c : Cx) (t : TypeId) : Option Nat := match c.P.info? t with
  | some i => some i.size
  | none => none
def Cx.bytes (c : Cx) (t : TypeId) : Option Nat := match c.P.info? t with
  | some i => some i.bytes
  | none => none
/-- the cells of a type's zero value, if they are as many as the type's size -/
def Cx.zero (c : Cx) (t : TypeId) : Option (List AV) := match c.P.info? t with
  | some i => match i.zero with
    | some v => match trScs c v.cells.toList with
      | some l => bif Nat.beq l.length i.size then some l else none
      | none => none
    | none => none
  | none => none
def Cx.zeroV (c : Cx) (t : TypeId) : Option AV := match c.P.info? t with
  | some i => match i.zero with
    | some v => match trV c v with
      | some a => bif a.isV then some a else none
      | none => none
    | none => none
  | none => none
def Cx.agg (c : Cx) (t : TypeId) : Option Bool := match c.P.underlying t with
  | some (.struct _) => some true
  | some (.array _ _) => some true
  | some _ => some false
  | none => none

/-- parts by fields -/
def trParts (c : Cx) (place : Nat → Option (Nat × Nat)) : List (Nat × Operand) → Option (List (Nat × Nat × X))
  | [] => some []
  | (i, x) :: r => match place i, trX c x, trParts c place r with
    | some (o, n), some x, some r => some ((o, n, x) :: r)
    | _, _, _ => none

def fieldOf (c : Cx) (fs : Array Field) (i : Nat) : Option (Nat × Nat) := match fs[i]? with
  | some f => match c.size f.type with
    | some n => some (f.offset, n)
    | none => none
  | none => none

/-- The kinds of a plain type's cells. -/
def kindsF (g : TypeId → Option (List CK)) : Nat → List Field → Option (List CK)
  | _, [] => some []
  | o, f :: fs => bif f.name != "_" && Nat.beq f.offset o then (match g f.type with
    | some ks => match kindsF g (o + ks.length) fs with
      | some r => some (ks ++ r)
      | none => none
    | none => none) else none

def times : Nat → List CK → List CK
  | 0, _ => []
  | n + 1, ks => ks ++ times n ks

def kindsT (c : Cx) : Nat → TypeId → Option (List CK)
  | 0, _ => none
  | d + 1, t => match (match c.P.underlying t with
      | some .bool => some [CK.b]
      | some (.int k) => some [CK.i k]
      | some .string => some [CK.s]
      | some (.struct fs) => bif c.P.stoodInHeld t then none else kindsF (kindsT c d) 0 fs.toList
      | some (.array n e) => match kindsT c d e with
        | some ks => some (times n ks)
        | none => none
      | _ => none) with
    | some ks => match c.size t with
      | some n => bif Nat.beq n ks.length then some ks else none
      | none => none
    | none => none

/-- Is a type strings.Builder? -/
def Cx.isB (c : Cx) (t : TypeId) : Bool := match c.bt with
  | some b => Nat.beq b t
  | none => false

/-- The kind of a row of such elements, less one. -/
def rowK (P : Program) (e : TypeId) : Nat := match P.info? e with
  | some i => match i.desc with
    | .int .u8 => bif Nat.beq i.size 1 then 2 else 0
    | _ => 0
  | none => 0

def isU8 (P : Program) (e : TypeId) : Bool := match P.underlying e with
  | some (.int .u8) => true
  | _ => false

def keyStr (P : Program) (k : TypeId) : Option Bool := match P.underlying k with
  | some .string => some true
  | some (.int _) => some false
  | _ => none

def trBin (c : Cx) (op : BinOp) (t : TypeId) (x y : X) : Option PR :=
  match c.P.underlying t with
  | some (.int _) => some (.bin op x y)
  | some .string => some (.bin op x y)
  | some d =>
    match (match op with | .eql => some false | .neq => some true | _ => none) with
    | none => none
    | some neg => match d with
      | .bool => some (.eqv neg .b x y)
      | .struct _ => bif c.P.eqGuardType c.P.depth t then none else (match kindsT c 8 t with
        | some ks => some (.eqa neg ks x y)
        | none => none)
      | .array _ _ => bif c.P.eqGuardType c.P.depth t then none else (match kindsT c 8 t with
        | some ks => some (.eqa neg ks x y)
        | none => none)
      | .pointer e => match c.size e with
        | some (_ + 1) => some (.eqc neg x y)
        | _ => none
      | .slice _ => some (.eqv neg .s x y)
      | .map _ _ => some (.eqv neg .m x y)
      | .func _ _ _ => some (.eqv neg .f x y)
      | _ => none
  | none => none

def trConv (c : Cx) (s d : TypeId) (x : X) : Option Pk :=
  match c.P.underlying s, c.P.underlying d with
  | some (.int _), some (.int k) => some (.r (.cint k x))
  | some .string, some .string => some (.r (.sstr x))
  | some .string, some (.slice e) => bif isU8 c.P e && Nat.beq (rowK c.P e) 2 then some (.n (.s2b x)) else none
  | some (.slice e), some .string => bif isU8 c.P e then some (.r (.b2s x)) else none
  | some (.slice _), some (.slice e) => bif Nat.beq s d && isU8 c.P e then some (.e (.mark x)) else none
  | some (.pointer t), some .unsafePointer => match c.size t with
    | some (_ + 1) => some (.r (.p2u x))
    | _ => none
  | some .unsafePointer, some (.pointer t) => bif c.isB t then (match c.size t with
    | some (n + 1) => some (.r (.u2b (n + 1) x))
    | _ => none) else none
  | _, _ => none

def trBuiltin (c : Cx) (b : Builtin) (ts : List TypeId) (xs : List X) : Option Pk :=
  match b, ts, xs with
  | .append, [s, t], [x, y] => match c.P.underlying s, c.P.underlying t with
    | some (.slice e), some (.slice _) => match c.size e, c.bytes e, c.zero e with
      | some n, some b, some _ => some (.e (.app (rowK c.P e) n b x y))
      | _, _, _ => none
    | some (.slice e), some .string => match c.size e, c.bytes e, c.zero e with
      | some n, some b, some _ => some (.e (.app (rowK c.P e) n b x y))
      | _, _, _ => none
    | _, _ => none
  | .len, t :: _, x :: _ => match c.P.underlying t with
    | some (.array n _) => some (.r (.mv (.c (.int .i64 (Int.ofNat n)))))
    | some .string => some (.r (.lens x))
    | some (.slice _) => some (.r (.lensl x))
    | some (.map _ _) => some (.r (.lenm x))
    | some (.pointer a) => match c.P.underlying a with
      | some (.array n _) => some (.r (.mv (.c (.int .i64 (Int.ofNat n)))))
      | _ => none
    | _ => none
  | .cap, t :: _, x :: _ => match c.P.underlying t with
    | some (.slice _) => some (.r (.cap x))
    | _ => none
  | .copy, [s, t], [x, y] => match c.P.underlying s, c.P.underlying t with
    | some (.slice e), some (.slice _) => match c.size e with
      | some n => some (.e (.copy n x y))
      | none => none
    | some (.slice e), some .string => match c.size e with
      | some n => some (.e (.copy n x y))
      | none => none
    | _, _ => none
  | .clear, t :: _, x :: _ => match c.P.underlying t with
    | some (.slice e) => match c.zero e with
      | some z => some (.e (.clear z x))
      | none => none
    | _ => none
  | .delete, t :: _, [x, k] => match c.P.underlying t with
    | some (.map kt _) => match keyStr c.P kt with
      | some s => some (.e (.mdel s x k))
      | none => none
    | _ => none
  | .unsafeSliceData, _, [x] => some (.r (.sdata x))
  | .unsafeString, t :: _, [x, y] => match c.P.underlying t with
    | some (.pointer e) => match c.P.info? e with
      | some i => match i.desc with
        | .int .u8 => some (.e (.ustr x y))
        | _ => none
      | none => none
    | _ => none
  | .min, t :: _, xs => match c.P.underlying t with
    | some (.int _) => some (.r (.minmax false xs))
    | _ => none
  | .max, t :: _, xs => match c.P.underlying t with
    | some (.int _) => some (.r (.minmax true xs))
    | _ => none
  | _, _, _ => none

def trOp (c : Cx) : Op → Option Pk
  | .move x => match trX c x with
    | some x => some (.r (.mv x))
    | none => none
  | .assign x => match trX c x with
    | some x => some (.r (.mv x))
    | none => none
  | .pick k a b => match trX c k, trX c a, trX c b with
    | some k, some a, some b => some (.r (.pick k a b))
    | _, _, _ => none
  | .alloc t => match c.zero t with
    | some z => some (.n (.new (bif c.isB t then 1 else 0) z))
    | none => none
  | .box _ x => match trX c x with
    | some x => some (.n (.box x))
    | none => none
  | .build t ps => match c.P.underlying t, c.zero t with
    | some (.struct fs), some z => bif fs.toList.all (fun f => (c.size f.type).isSome) then (match trParts c (fieldOf c fs) ps.toList with
      | some ps => some (.r (.build z ps))
      | none => none) else none
    | some (.array _ e), some z => match c.size e with
      | some n => match trParts c (fun i => some (i * n, n)) ps.toList with
        | some ps => some (.r (.build z ps))
        | none => none
      | none => none
    | _, _ => none
  | .buildSlice t len ps => match c.P.underlying t with
    | some (.slice e) => match c.size e, c.zero e with
      | some n, some z => bif Nat.ble (len * n) 16777216 && !Nat.beq n 0 then (match trParts c (fun i => some (i * n, n)) ps.toList with
        | some ps => some (.n (.bslice (rowK c.P e) n len (rep len z) ps))
        | none => none) else none
      | _, _ => none
    | _ => none
  | .load t a => match c.agg t, c.size t, trX c a with
    | some g, some n, some a => some (.r (.load g (bif g then n else 1) a))
    | _, _, _ => none
  | .store t a v => match c.size t, trX c a, trX c v with
    | some n, some a, some v => some (.e (.store n a v))
    | _, _, _ => none
  | .nilCheck x => match trX c x with
    | some x => some (.r (.nilck x))
    | none => none
  | .binOp op t x y _ => match trX c x, trX c y with
    | some x, some y => match trBin c op t x y with
      | some p => some (.r p)
      | none => none
    | _, _ => none
  | .unOp op _ x => match trX c x with
    | some x => some (.r (.un op x))
    | none => none
  | .convert s d x => match trX c x with
    | some x => trConv c s d x
    | none => none
  | .makeMap t none => match c.P.underlying t with
    | some (.map _ _) => some (.n .mkmap)
    | _ => none
  | .makeSlice t l k => match c.P.underlying t with
    | some (.slice e) => match c.size e, c.bytes e, c.zero e, trX c l, trX c k with
      | some (n + 1), some b, some z, some l, some k => some (.n (.mksl (rowK c.P e) (n + 1) b z l k))
      | _, _, _, _, _ => none
    | _ => none
  | .slice t x lo hi mx => match trX c x, trXo c lo, trXo c hi, trXo c mx with
    | some x, some lo, some hi, some mx => match c.P.underlying t with
      | some .string => match mx with
        | none => some (.r (.slstr x lo hi))
        | some _ => none
      | some (.slice e) => match c.size e with
        | some n => some (.r (.slsl n x lo hi mx))
        | none => none
      | some (.array n e) => match mx, c.size e with
        | none, some s => some (.r (.slarr n s x lo hi))
        | _, _ => none
      | _ => none
    | _, _, _, _ => none
  | .fieldAddr s x f => match c.P.underlying s, trX c x with
    | some (.struct fs), some x => match fieldOf c fs f with
      | some (o, _ + 1) => some (.r (.faddr o x))
      | _ => none
    | _, _ => none
  | .field t x f => match c.P.underlying t, trX c x with
    | some (.struct fs), some x => match fs[f]? with
      | some fd => match c.agg fd.type, c.size fd.type with
        | some g, some n => some (.r (.fld g n fd.offset x))
        | _, _ => none
      | none => none
    | _, _ => none
  | .indexAddr t x i => match c.P.underlying t, trX c x, trX c i with
    | some (.slice e), some x, some i => match c.size e with
      | some (n + 1) => some (.r (.iasl (n + 1) x i))
      | _ => none
    | some (.array len e), some x, some i => match c.size e with
      | some (n + 1) => some (.r (.iaarr len (n + 1) x i))
      | _ => none
    | _, _, _ => none
  | .index t x i => match c.P.underlying t, trX c x, trX c i with
    | some .string, some x, some i => some (.r (.ixstr x i))
    | some (.array len e), some x, some i => match c.agg e, c.size e with
      | some g, some n => some (.r (.ixagg len g n x i))
      | _, _ => none
    | _, _, _ => none
  | .lookup t m k ok => match c.P.underlying t, trX c m, trX c k with
    | some (.map kt e), some m, some k => match keyStr c.P kt, c.zeroV e with
      | some s, some z => some (.r (.look s z ok m k))
      | _, _ => none
    | _, _, _ => none
  | .mapUpdate t m k v => match c.P.underlying t, trX c m, trX c k, trX c v with
    | some (.map kt _), some m, some k, some v => match keyStr c.P kt with
      | some s => some (.e (.mupd s m k v))
      | none => none
    | _, _, _, _ => none
  | .mapEntry t m k => match c.P.underlying t, trX c m, trX c k with
    | some (.map kt e), some m, some k => match keyStr c.P kt, c.zeroV e with
      | some s, some z => some (.e (.ment s z m k))
      | _, _ => none
    | _, _, _ => none
  | .entryStore _ m s v => match trX c m, trX c s, trX c v with
    | some m, some s, some v => some (.e (.mest m s v))
    | _, _, _ => none
  | .extract x i => match trX c x with
    | some x => some (.r (.ext i x))
    | none => none
  | .makeFunc (.func g) first caps => match c.fm g, trXs c caps.toList with
    | some f, some xs => bif first.isEmpty then some (.r (.mkfn f xs)) else none
    | _, _ => none
  | .call k => match trXs c k.args.toList with
    | some xs => match k.callee with
      | .builtin b => trBuiltin c b k.argTypes.toList xs
      | .value (.func g) => match c.fm g with
        | some f => some (.e (.call f xs))
        | none => match xs with
          | [x] => bif Nat.beq (c.ext g) 2 then some (.r (.same x)) else bif Nat.beq (c.ext g) 3 then some (.n (.nozero x)) else none
          | [x, y] => bif Nat.beq (c.ext g) 1 then some (.r (.index x y)) else none
          | _ => none
      | .value f => match trX c f with
        | some f => some (.e (.callv f xs))
        | none => none
      | _ => none
    | none => none
  | _ => none

/-- The guard's slot. -/
def trG (ops : Array Oper) (g : Option (Nat × Bool)) : Option (Option (Nat × Bool)) := match g with
  | none => some none
  | some (j, w) => match ops[j]? with
    | some o => match o.dst with
      | some d => some (some (d, w))
      | none => none
    | none => none

def trO (c : Cx) (ops : Array Oper) (o : Oper) : PO := match trG ops o.guard, trOp c o.op with
  | some g, some p => { dst := o.dst, guard := g, op := p }
  | _, _ => { dst := o.dst, guard := none, op := .r .bad }

---------------------------------------------------------------- the slots that an operation looks at

def X.tm : X → List Nat
  | .t i => [i]
  | .c _ => []

def Xo.tm : Option X → List Nat
  | some x => x.tm
  | none => []

def X.tms : List X → List Nat
  | [] => []
  | x :: xs => x.tm ++ X.tms xs

def X.tmp : List (Nat × Nat × X) → List Nat
  | [] => []
  | (_, _, x) :: xs => x.tm ++ X.tmp xs

def PR.tm : PR → List Nat
  | .mv x | .load _ _ x | .nilck x | .un _ x | .cint _ x | .same x | .b2s x | .faddr _ x | .fld _ _ _ x | .ext _ x | .lens x | .lensl x | .lenm x | .sstr x | .cap x | .p2u x | .u2b _ x | .sdata x => x.tm
  | .pick a b c => a.tm ++ (b.tm ++ c.tm)
  | .build _ ps => X.tmp ps
  | .bin _ x y | .eqv _ _ x y | .eqc _ x y | .eqa _ _ x y | .iasl _ x y | .iaarr _ _ x y | .ixstr x y | .ixagg _ _ _ x y | .look _ _ _ x y | .index x y => x.tm ++ y.tm
  | .slstr x lo hi => x.tm ++ (Xo.tm lo ++ Xo.tm hi)
  | .slsl _ x lo hi mx => x.tm ++ (Xo.tm lo ++ (Xo.tm hi ++ Xo.tm mx))
  | .slarr _ _ x lo hi => x.tm ++ (Xo.tm lo ++ Xo.tm hi)
  | .minmax _ xs | .mkfn _ xs => X.tms xs
  | .bad => []

def PN.tm : PN → List Nat
  | .new _ _ | .mkmap => []
  | .box x | .s2b x | .nozero x => x.tm
  | .bslice _ _ _ _ ps => X.tmp ps
  | .mksl _ _ _ _ l k => l.tm ++ k.tm

def PE.tm : PE → List Nat
  | .store _ x y | .mdel _ x y | .app _ _ _ x y | .copy _ x y | .ustr x y => x.tm ++ y.tm
  | .mupd _ x y z | .mest x y z => x.tm ++ (y.tm ++ z.tm)
  | .ment _ _ x y => x.tm ++ y.tm
  | .clear _ x | .mark x => x.tm
  | .call _ xs => X.tms xs
  | .callv x xs => x.tm ++ X.tms xs

def Pk.tm : Pk → List Nat
  | .r p => p.tm
  | .n p => p.tm
  | .e p => p.tm

def guardTm : Option (Nat × Bool) → List Nat
  | some (g, _) => [g]
  | none => []

def PO.tm (o : PO) : List Nat := guardTm o.guard ++ o.op.tm

---------------------------------------------------------------- a region that draws its order

def Pk.isE : Pk → Bool
  | .e _ => true
  | _ => false
/-- Does it look into the heap? -/
def Pk.reads : Pk → Bool
  | .r p => match p with
    | .load .. | .eqc .. | .b2s .. | .slsl .. | .slarr .. | .look .. | .lenm .. | .p2u .. | .u2b .. | .sdata .. => true
    | _ => false
  | _ => false

def has (l : List Nat) (x : Nat) : Bool := match l with
  | [] => false
  | y :: l => Nat.beq x y || has l x

/-- An item of a plan: an operation by its number; a reading that is asked again. -/
inductive PIt where
  | op (i : Nat)
  | again (i : Nat)
  deriving Inhabited

def PIt.ops : List PIt → List Nat
  | [] => []
  | .op i :: r => i :: PIt.ops r
  | .again _ :: r => PIt.ops r

def PIt.agains : List PIt → List Nat
  | .again i :: r => i :: PIt.agains r
  | _ => []

section
variable (os : List PO) (ds : List (List Nat))

def opAt (i : Nat) : PO := os.getD i default
def dirs (i : Nat) : List Nat := ds.getD i []

/-- all that a list of operations waits for, gone through in an order -/
def closeOver (l : List Nat) : List Nat → List Nat
  | [] => l
  | z :: r => closeOver (bif has l z then l ++ dirs ds z else l) r

def cl (i : Nat) : List Nat := closeOver ds (dirs ds i) (List.range os.length).reverse

/-- those that can be done now, in the text's order, with an effect or not -/
def canDo (e : Bool) (P : List Nat) : List Nat → List Nat
  | [] => []
  | i :: is => bif !has P i && ((opAt os i).op.isE == e && (dirs ds i).all (has P)) then i :: canDo e P is else canDo e P is

/-- The plan: what has no effect as soon as it can be done. -/
def plan (idx : List Nat) : Nat → List Nat → List PIt
  | 0, _ => []
  | f + 1, P => match canDo os ds false P idx with
    | i :: _ => .op i :: plan idx f (i :: P)
    | [] => match canDo os ds true P idx with
      | e :: _ => .op e :: ((P.filter fun y => (opAt os y).op.reads && !has (cl os ds e) y).map PIt.again ++ plan idx f (e :: P))
      | [] => []

def dstIs (i t : Nat) : Bool := match (opAt os i).dst with
  | some d => Nat.beq d t
  | none => false

/-- Is a plan good? P: what is done. -/
def chk : List Nat → List PIt → Bool
  | P, [] => (List.range os.length).all (has P)
  | P, .again y :: r => has P y && P.all (fun z => !(opAt os y).tm.any (dstIs os z) || has (dirs ds y) z) && chk P r
  | P, .op x :: r =>
    Nat.blt x os.length && !has P x && (dirs ds x).all (has P) &&
    P.all (fun y => !(opAt os x).tm.any (dstIs os y) || has (dirs ds x) y) &&
    P.all (fun y => !(opAt os y).tm.any (dstIs os x) || has (cl os ds x) y) &&
    P.all (fun y => match (opAt os y).dst with
      | some d => !dstIs os x d
      | none => true) &&
    (bif (opAt os x).op.isE then
      (PIt.ops r).all (fun z => (dirs ds z).any fun d => Nat.beq d x || has (PIt.ops r) d) &&
      P.all (fun y => !(opAt os y).op.reads || (has (cl os ds x) y || has (PIt.agains r) y))
    else true) && chk (x :: P) r

def toIt : PIt → It
  | .op i => .op (opAt os i)
  | .again i => .again (opAt os i)
end

/-- What an operation waits for. -/
def directs (o : Oper) : List Nat := (o.after.toList.filter (Region.binds .any)).map (·.on)

def trRegion (c : Cx) (ops : Array Oper) (draw : Bool) : List It :=
  let os := ops.toList.map (trO c ops)
  bif draw then
    let ds := ops.toList.map directs
    let p := plan os ds (List.range os.length) os.length []
    bif chk os ds [] p then p.map (toIt os) else [.op { dst := none, guard := none, op := .r .bad }]
  else os.map It.op

def trC (c : Cx) : Code → PC
  | .skip => .skip
  | .label _ => .skip
  | .region _ ops draw => .region (trRegion c ops draw)
  | .seq a b => .seq (trC c a) (trC c b)
  | .cond x a b => match trX c x with
    | some x => .cond x (trC c a) (trC c b)
    | none => .stuck
  | .block id b => .block id (trC c b)
  | .loop b => .loop (trC c b)
  | .exit id => .exit id
  | .scope b => .scope (trC c b)
  | .ret => .ret
  | _ => .stuck

def trRes (c : Cx) : ResultVar → PRes
  | .tmp t => .tmp t
  | .cell t ty => match c.agg ty, c.size ty with
    | some g, some n => .cell t g (bif g then n else 1)
    | _, _ => .cell t false 0

def trF (c : Cx) (fn : Func) : PF :=
  { ntmps := fn.ntmps
    results := fn.results.toList.map (trRes c)
    body := match fn.body with
      | some b => trC c b
      | none => .stuck }

end Go.Dp
