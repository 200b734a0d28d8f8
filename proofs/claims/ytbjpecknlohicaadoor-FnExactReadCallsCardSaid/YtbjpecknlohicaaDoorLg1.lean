/- The logical machine: a deterministic evaluator of the model's code over logical values and a logical heap. Definitions alone. No condition. -/
import Derived.Calls
import Derived.LoopN
import Derived.Orders
import Derived.Tactics
import Derived.KernelRfl
namespace Go.Proofs.YtbjpecknlohicaaDoor.Lg
set_option linter.unusedSimpArgs false
set_option linter.unusedVariables false

/-- a logical value: addresses are (logical block, cell); a slice bears its first cell, the cells an element takes, its length and a sure capacity -/
inductive V where
  | bool (b : Bool)
  | int (k : IntKind) (n : Int)
  | str (s : ByteArray)
  | ptr (b o : Nat)
  | gptr (g o : Nat)
  | nilp
  | sl (b o z n c : Nat)
  | nilsl
  | emp
  | map (b : Nat)
  | nilmap
  | fn (f : FuncId) (caps : List V)
  | nilfn
  | agg (cs : List V)
  | tup (vs : List V)

abbrev und : V := .tup []

/-- a logical block -/
inductive Blk where
  | cells (cs : List V)
  | map (es : List (V × V))
  | dead

abbrev LH := List Blk
abbrev Env := List (Option V)
abbrev Loc := List (Tmp × V)

inductive Ex where
  | nrm
  | exit (id : Nat)
  | ret

/-- go on under a condition -/
def grd {α : Type} (c : Prop) [Decidable c] (x : Option α) : Option α := if c then x else none

inductive Mode where
  | pure | fresh | any
  deriving DecidableEq

structure Cfg where
  keep : FuncId → List Tmp
  mode : FuncId → Mode
  glob : Nat → Option (List V)

def V.cells : V → List V
  | .agg cs => cs
  | .bool b => [.bool b]
  | .int k n => [.int k n]
  | .str s => [.str s]
  | .ptr b o => [.ptr b o]
  | .gptr b o => [.gptr b o]
  | .nilp => [.nilp]
  | .sl b o z n c => [.sl b o z n c]
  | .nilsl => [.nilsl]
  | .emp => [.emp]
  | .map b => [.map b]
  | .nilmap => [.nilmap]
  | .fn f c => [.fn f c]
  | .nilfn => [.nilfn]
  | .tup c => [.tup c]

def V.isTup : V → Bool
  | .tup _ => true
  | _ => false
def V.isScal : V → Bool
  | .tup _ => false
  | .agg _ => false
  | _ => true

mutual
def V.noAddr : V → Bool
  | .bool _ => true
  | .int _ _ => true
  | .str _ => true
  | .nilp => true
  | .nilsl => true
  | .emp => true
  | .nilmap => true
  | .nilfn => true
  | .gptr _ _ => true
  | .agg cs => V.noAddrs cs
  | .tup cs => V.noAddrs cs
  | .ptr _ _ => false
  | .sl _ _ _ _ _ => false
  | .map _ => false
  | .fn _ _ => false
def V.noAddrs : List V → Bool
  | [] => true
  | v :: vs => v.noAddr && V.noAddrs vs
end

/-- constants of the code, and zero values -/
def scal : Value → Option V
  | .bool b => some (.bool b)
  | .int k n => some (.int k n)
  | .string s => some (.str s)
  | .pointer none => some .nilp
  | .slice none 0 0 => some .nilsl
  | .map none => some .nilmap
  | .nilFunc => some .nilfn
  | .func (.func f) ⟨[]⟩ ⟨[]⟩ => some (.fn f [])
  | _ => none
def scals : List Value → Option (List V)
  | [] => some []
  | v :: vs => match scal v, scals vs with
    | some x, some xs => some (x :: xs)
    | _, _ => none
def ofValue : Value → Option V
  | .agg ⟨cs⟩ => (scals cs).map .agg
  | .tuple ⟨[]⟩ => some (.tup [])
  | v => scal v

/-! ### types -/
inductive TK where
  | bool | int (k : IntKind) | str
  | slice (e : TypeId)
  | array (n : Nat) (e : TypeId)
  | map (k e : TypeId)
  | struct (fs : List (Nat × TypeId)) (flat : Option (List Nat))
  | other
structure TI where
  size : Nat
  bytes : Nat
  kind : TK
  zero : Option V
/-- of a struct type whose fields are whole numbers, bools or texts, one behind the other, and none blank: their kinds -/
def flatFrom (P : Program) : Nat → List Field → Option (List Nat)
  | _, [] => some []
  | o, f :: fs => if f.name != "_" && f.offset == o then
      match P.underlying f.type, flatFrom P (o + 1) fs with
      | some .bool, some l => some (0 :: l)
      | some (.int _), some l => some (1 :: l)
      | some .string, some l => some (2 :: l)
      | _, _ => none
    else none
def tkOf (P : Program) (t : TypeId) : TypeDesc → TK
  | .bool => .bool
  | .int k => .int k
  | .string => .str
  | .slice e => .slice e
  | .array n e => .array n e
  | .map k e => .map k e
  | .struct fs => .struct (fs.toList.map fun f => (f.offset, f.type)) (if P.stoodInHeld t then none else flatFrom P 0 fs.toList)
  | _ => .other
def ty (P : Program) (t : TypeId) : Option TI :=
  match P.info? t, P.underlying t with
  | some i, some d => some { size := i.size, bytes := i.bytes, kind := tkOf P t d, zero := i.zero.bind ofValue }
  | _, _ => none
def TK.isAgg : TK → Bool
  | .struct _ _ => true
  | .array _ _ => true
  | _ => false

/-! ### operands -/
def lookE : List Tmp → Env → Tmp → Option V
  | k :: ks, e :: es, t => if k = t then e else lookE ks es t
  | _, _, _ => none
/-- a local temporary, then the frame's kept ones -/
def lookL (keep : List Tmp) (env : Env) : Loc → Tmp → Option V
  | [], t => lookE keep env t
  | (t', v) :: l, t => if t' = t then some v else lookL keep env l t
def evalO (keep : List Tmp) (env : Env) (l : Loc) : Operand → Option V
  | .tmp t => lookL keep env l t
  | .const v => ofValue v
  | .global g => some (.gptr g 0)
  | .func f => some (.fn f [])
def evalL (keep : List Tmp) (env : Env) (l : Loc) : List Operand → List (Option V)
  | [] => []
  | x :: xs => evalO keep env l x :: evalL keep env l xs
def allV : List (Option V) → Option (List V)
  | [] => some []
  | some v :: vs => match allV vs with
    | some l => some (v :: l)
    | none => none
  | none :: _ => none
def findL : Loc → Tmp → Option V → Option V
  | [], _, d => d
  | (t', v) :: l, t, d => if t' = t then some v else findL l t d
/-- what is kept behind a region -/
def keepE : List Tmp → Env → Loc → Env
  | k :: ks, e :: es, l => findL l k e :: keepE ks es l
  | _, _, _ => []

/-! ### the heap -/
def LH.cellsAt (H : LH) (b : Nat) : Option (List V) := match H[b]? with | some (.cells cs) => some cs | _ => none
def LH.mapAt (H : LH) (b : Nat) : Option (List (V × V)) := match H[b]? with | some (.map es) => some es | _ => none
/-- 'n' cells from 'o' on -/
def cut (cs : List V) (o n : Nat) : Option (List V) := grd (o + n ≤ cs.length) (some ((cs.drop o).take n))
def putAt (cs : List V) (o : Nat) : List V → List V
  | [] => cs
  | x :: xs => putAt (cs.set o x) (o + 1) xs
def one : List V → Option V
  | [x] => some x
  | _ => none
def ofCells : Bool → List V → Option V
  | true, cs => some (.agg cs)
  | false, cs => one cs
def bytesV (s : ByteArray) : List V := s.data.toList.map fun b => .int .u8 b.toNat
def optCut (o n : Nat) : Option (List V) → Option (List V)
  | some cs => cut cs o n
  | none => none
/-- the cells of a slice, or the bytes of a text, as cells -/
def slCells (H : LH) : V → Option (List V)
  | .sl b o z n _ => optCut o (n * z) (H.cellsAt b)
  | .nilsl => some []
  | .emp => some []
  | .str s => some (bytesV s)
  | _ => none
def fillV (place : Nat → Option (Nat × Nat)) (cells : List V) : List (Nat × V) → Option (List V)
  | [] => some cells
  | (i, v) :: rest =>
    match place i with
    | some (off, size) => grd (v.cells.length = size ∧ off + size ≤ cells.length ∧ v.isTup = false) (fillV place (putAt cells off v.cells) rest)
    | none => none
/-- a number of cells that memory surely bears -/
def mostCells : Nat := 2 ^ 40
def zeros (z : V) (n : Nat) : List V := (List.replicate n z.cells).flatten

/-! ### operations over values -/
def cmpI (op : BinOp) (a b : Int) : Option V :=
  match op with
  | .eql => some (.bool (decide (a = b)))
  | .neq => some (.bool (!decide (a = b)))
  | .lss => some (.bool (decide (a < b)))
  | .leq => some (.bool (decide (a ≤ b)))
  | .gtr => some (.bool (decide (b < a)))
  | .geq => some (.bool (decide (b ≤ a)))
  | _ => none
def bitsI (op : BinOp) (k : IntKind) (x y : Int) : Option V :=
  match op with
  | .and => some (.int k (k.wrap (BitVec.ofInt k.bits x &&& BitVec.ofInt k.bits y).toNat))
  | .or => some (.int k (k.wrap (BitVec.ofInt k.bits x ||| BitVec.ofInt k.bits y).toNat))
  | .xor => some (.int k (k.wrap (BitVec.ofInt k.bits x ^^^ BitVec.ofInt k.bits y).toNat))
  | .andNot => some (.int k (k.wrap (BitVec.ofInt k.bits x &&& ~~~ BitVec.ofInt k.bits y).toNat))
  | _ => none
/-- equality of two scalars of one kind -/
def eqS : V → V → Option Bool
  | .bool a, .bool b => some (a == b)
  | .int k a, .int k' b => grd (k = k') (some (decide (a = b)))
  | .str a, .str b => some (decide (a = b))
  | _, _ => none
def kindV : V → Nat
  | .bool _ => 0
  | .int _ _ => 1
  | .str _ => 2
  | _ => 3
def andO : Option Bool → Option Bool → Option Bool
  | some b, some c => some (b && c)
  | _, _ => none
def eqL : List Nat → List V → List V → Option Bool
  | [], [], [] => some true
  | k :: ks, x :: xs, y :: ys => grd (kindV x = k) (andO (eqS x y) (eqL ks xs ys))
  | _, _, _ => none
def notO : Option Bool → Option V
  | some b => some (.bool !b)
  | none => none
def yesO : Option Bool → Option V
  | some b => some (.bool b)
  | none => none
def binI (op : BinOp) (k : IntKind) (a : Int) (k' : IntKind) (b : Int) : Option V :=
  match op with
  | .shl => grd (0 ≤ b) (some (.int k (k.wrap (a * 2 ^ (min b.toNat k.bits)))))
  | .shr => grd (0 ≤ b) (some (.int k (a.fdiv (2 ^ (min b.toNat k.bits)))))
  | .add => grd (k = k') (some (.int k (k.wrap (a + b))))
  | .sub => grd (k = k') (some (.int k (k.wrap (a - b))))
  | .mul => grd (k = k') (some (.int k (k.wrap (a * b))))
  | .quo => grd (k = k' ∧ b ≠ 0) (some (.int k (k.wrap (a.tdiv b))))
  | .rem => grd (k = k' ∧ b ≠ 0) (some (.int k (a.tmod b)))
  | .and => grd (k = k') (bitsI .and k a b)
  | .or => grd (k = k') (bitsI .or k a b)
  | .xor => grd (k = k') (bitsI .xor k a b)
  | .andNot => grd (k = k') (bitsI .andNot k a b)
  | .eql => grd (k = k') (cmpI .eql a b)
  | .neq => grd (k = k') (cmpI .neq a b)
  | .lss => grd (k = k') (cmpI .lss a b)
  | .leq => grd (k = k') (cmpI .leq a b)
  | .gtr => grd (k = k') (cmpI .gtr a b)
  | .geq => grd (k = k') (cmpI .geq a b)
def binS (op : BinOp) (a b : ByteArray) : Option V :=
  match op with
  | .add => grd (a.size + b.size ≤ 9223372036854775807) (some (.str (a ++ b)))
  | .eql => some (.bool (decide (a = b)))
  | .neq => some (.bool (!decide (a = b)))
  | _ => none
def binV (T : TypeId → Option TI) (op : BinOp) (t : TypeId) : V → V → Option V
  | .int k a, .int k' b => binI op k a k' b
  | .str a, .str b => binS op a b
  | .bool a, .bool b => match op, T t with
    | .eql, some ⟨_, _, .bool, _⟩ => some (.bool (a == b))
    | .neq, some ⟨_, _, .bool, _⟩ => some (.bool (!(a == b)))
    | _, _ => none
  | .agg a, .agg b => match op, T t with
    | .eql, some ⟨_, _, .struct _ (some ks), _⟩ => yesO (eqL ks a b)
    | .neq, some ⟨_, _, .struct _ (some ks), _⟩ => notO (eqL ks a b)
    | _, _ => none
  | _, _ => none
def unV (op : UnOp) : V → Option V
  | .int k n => match op with
    | .neg => some (.int k (k.wrap (0 - n)))
    | _ => none
  | .bool b => match op with
    | .not => some (.bool !b)
    | _ => none
  | _ => none
/-- a bound of a slice expression -/
def boundV (v : V) (y : Nat) : Option Nat := match v with | .int _ i => grd (0 ≤ i ∧ i ≤ (y : Int)) (some i.toNat) | _ => none
def hiV (d y : Nat) : Option V → Option Nat
  | some v => boundV v y
  | none => some d
def cutS (s : ByteArray) : Option Nat → Option Nat → Option V
  | some h, some l => grd (l ≤ h) (some (.str (s.extract l h)))
  | _, _ => none
def cutL (b o z c : Nat) : Option Nat → Option Nat → Option V
  | some h, some l => grd (l ≤ h) (some (.sl b (o + l * z) z (h - l) (c - l)))
  | _, _ => none
def cutN : Option Nat → Option Nat → Option V
  | some _, some _ => some .nilsl
  | _, _ => none
def cutE : Option Nat → Option Nat → Option V
  | some _, some _ => some .emp
  | _, _ => none
def sliceV (x : V) (lo hi : Option V) : Option V :=
  match x with
  | .str s => cutS s (hiV s.size s.size hi) (hiV 0 s.size lo)
  | .sl b o z n c => cutL b o z c (hiV n c hi) (hiV 0 c lo)
  | .nilsl => cutN (hiV 0 0 hi) (hiV 0 0 lo)
  | .emp => cutE (hiV 0 0 hi) (hiV 0 0 lo)
  | _ => none
/-- the cells as bytes -/
def toBytes : List V → Option (List UInt8)
  | [] => some []
  | .int .u8 n :: cs => match toBytes cs with
    | some l => some (UInt8.ofNat n.toNat :: l)
    | none => none
  | _ => none

def ptrV (H : LH) (v : V) : Option (V × LH) := grd (v.isTup = false) (some (.ptr H.length 0, H ++ [.cells v.cells]))
def withH (H : LH) : Option V → Option (V × LH)
  | some v => some (v, H)
  | none => none
def aggO : Option (List V) → Option V
  | some cs => some (.agg cs)
  | none => none
def placeS (T : TypeId → Option TI) (fs : List (Nat × TypeId)) (i : Nat) : Option (Nat × Nat) :=
  match fs[i]? with
  | some (off, ft) => match T ft with
    | some i => some (off, i.size)
    | none => none
  | none => none
def places (T : TypeId → Option TI) : List (Nat × TypeId) → Option (List (Nat × Nat))
  | [] => some []
  | (off, t) :: fs => match T t, places T fs with
    | some i, some l => some ((off, i.size) :: l)
    | _, _ => none
def buildS (z : V) (parts : List (Nat × V)) : Option (List (Nat × Nat)) → Option V
  | some ps => grd (z.isTup = false) (aggO (fillV (fun i => ps[i]?) z.cells parts))
  | none => none
def buildV (T : TypeId → Option TI) (t : TypeId) (ixs : List Nat) : Option (List V) → Option V
  | none => none
  | some vs =>
    match T t with
    | some ⟨_, _, .array _ e, some z⟩ => match T e with
      | some i => grd (z.isTup = false) (aggO (fillV (fun j => some (j * i.size, i.size)) z.cells (ixs.zip vs)))
      | none => none
    | some ⟨_, _, .struct fs _, some z⟩ => buildS z (ixs.zip vs) (places T fs)
    | _ => none
def rowO (H : LH) (sz n : Nat) : Option (List V) → Option (V × LH)
  | some cs => some (.sl H.length 0 sz n n, H ++ [.cells cs])
  | none => none
def buildL (T : TypeId → Option TI) (t : TypeId) (n : Nat) (ixs : List Nat) (H : LH) : Option (List V) → Option (V × LH)
  | none => none
  | some vs =>
    match T t with
    | some ⟨_, _, .slice e, _⟩ => match T e with
      | some ⟨sz, _, _, some z⟩ => grd (0 < sz ∧ z.cells.length = sz ∧ n * sz ≤ 16777216 ∧ z.isTup = false) (rowO H sz n (fillV (fun i => some (i * sz, sz)) (zeros z n) (ixs.zip vs)))
      | _ => none
    | _ => none
def cellO (H : LH) (g : Bool) (o n : Nat) : Option (List V) → Option (V × LH)
  | some cs => match g with
    | true => grd (o + n ≤ cs.length) (some (.agg ((cs.drop o).take n), H))
    | false => match cs[o]? with
      | some v => some (v, H)
      | none => none
  | none => none
def loadV (G : Nat → Option (List V)) (H : LH) (g : Bool) (n : Nat) : V → Option (V × LH)
  | .ptr b o => cellO H g o n (H.cellsAt b)
  | .gptr b o => cellO H g o n (G b)
  | _ => none
def storeO (fl : Nat) (H : LH) (b o n : Nat) (v : V) : Option (List V) → Option (V × LH)
  | some cs => grd (v.cells.length = n ∧ o + n ≤ cs.length ∧ fl ≤ b ∧ v.isTup = false) (some (und, H.set b (.cells (putAt cs o v.cells))))
  | none => none
def storeV (fl : Nat) (H : LH) (n : Nat) (v : V) : V → Option (V × LH)
  | .ptr b o => storeO fl H b o n v (H.cellsAt b)
  | _ => none
def ptrOk (H : LH) : V → Option (V × LH)
  | .ptr b o => some (.ptr b o, H)
  | .gptr b o => some (.gptr b o, H)
  | _ => none
def strO (H : LH) : Option (List UInt8) → Option (V × LH)
  | some l => some (.str ⟨l.toArray⟩, H)
  | none => none
def bytesO (H : LH) : Option (List V) → Option (V × LH)
  | some cs => strO H (toBytes cs)
  | none => none
def convV (T : TypeId → Option TI) (fl : Nat) (H : LH) (s d : TypeId) (v : V) : Option (V × LH) :=
  match T s, T d with
  | some ⟨_, _, .int _, _⟩, some ⟨_, _, .int k, _⟩ => match v with
    | .int _ n => some (.int k (k.wrap n), H)
    | _ => none
  | some ⟨_, _, .int _, _⟩, some ⟨_, _, .str, _⟩ => match v with
    | .int _ n => some (.str (Utf8.encode n), H)
    | _ => none
  | some ⟨_, _, .slice e, _⟩, some ⟨_, _, .str, _⟩ => match T e, v with
    | some ⟨_, _, .int .u8, _⟩, .sl b o z n c => grd (z = 1) (bytesO H (slCells H (.sl b o z n c)))
    | some ⟨_, _, .int .u8, _⟩, .nilsl => some (.str ⟨#[]⟩, H)
    | some ⟨_, _, .int .u8, _⟩, .emp => some (.str ⟨#[]⟩, H)
    | _, _ => none
  | some ⟨_, _, .str, _⟩, some ⟨_, _, .slice e, _⟩ => match T e, v with
    | some ⟨_, _, .int .u8, _⟩, .str s => some (.sl H.length 0 1 s.size s.size, H ++ [.cells (bytesV s)])
    | _, _ => none
  | some ⟨_, _, .str, _⟩, some ⟨_, _, .str, _⟩ => match v with
    | .str s => some (.str s, H)
    | _ => none
  | some ⟨_, _, .slice _, _⟩, some ⟨_, _, .slice e, _⟩ => match T e, v with
    | some ⟨_, _, .int .u8, _⟩, .sl b o z n c => grd (s = d ∧ fl ≤ b ∧ (H.cellsAt b).isSome = true) (some (.sl b o z n c, H))
    | _, _ => none
  | _, _ => none
def makeV (H : LH) : Option TI → V → V → Option (V × LH)
  | some ⟨sz, by', _, some z⟩, .int _ nl, .int _ nc => grd (0 ≤ nl ∧ nl ≤ nc ∧ nc < 9223372036854775808 ∧ (by' : Int) * nc ≤ mostCells ∧ z.cells.length = sz ∧ 0 < sz ∧ z.isTup = false)
      (some (.sl H.length 0 sz nl.toNat nc.toNat, H ++ [.cells (zeros z nc.toNat)]))
  | _, _, _ => none
def elemI (T : TypeId → Option TI) (t : TypeId) : Option TI :=
  match T t with
  | some ⟨_, _, .slice e, _⟩ => T e
  | _ => none
def sizeO : Option TI → Option Nat
  | some i => some i.size
  | none => none
def sliceOk (T : TypeId → Option TI) (t : TypeId) : V → Bool
  | .str _ => match T t with | some ⟨_, _, .str, _⟩ => true | _ => false
  | .sl _ _ z _ _ => sizeO (elemI T t) == some z
  | .nilsl => (elemI T t).isSome
  | .emp => (elemI T t).isSome
  | _ => false
def addO (off : Nat) : V → Option V
  | .ptr b o => some (.ptr b (o + off))
  | .gptr g o => some (.gptr g (o + off))
  | _ => none
def fieldA (T : TypeId → Option TI) (t : TypeId) (f : Nat) (v : V) : Option V :=
  match T t with
  | some ⟨_, _, .struct fs _, _⟩ => match placeS T fs f with
    | some (off, n) => grd (0 < n) (addO off v)
    | none => none
  | _ => none
def partV (cs : List V) (off : Nat) : Option TI → Option V
  | some i => match i.kind.isAgg with
    | true => grd (off + i.size ≤ cs.length) (some (.agg ((cs.drop off).take i.size)))
    | false => cs[off]?
  | none => none
def fieldV (T : TypeId → Option TI) (t : TypeId) (f : Nat) : V → Option V
  | .agg cs => match T t with
    | some ⟨_, _, .struct fs _, _⟩ => match fs[f]? with
      | some (off, ft) => partV cs off (T ft)
      | none => none
    | _ => none
  | _ => none
def atO (k : Nat → Nat → V) (o : Nat) (len : Nat) (n : Int) (b : Nat) : Option Nat → Option V
  | some z => grd (0 ≤ n ∧ n < (len : Int)) (some (k b (o + n.toNat * z)))
  | none => none
def indexA (T : TypeId → Option TI) (t : TypeId) : V → V → Option V
  | .sl b o z len _, .int _ n => grd (sizeO (elemI T t) = some z) (grd (0 ≤ n ∧ n < (len : Int)) (some (.ptr b (o + n.toNat * z))))
  | .ptr b o, .int _ n => match T t with
    | some ⟨_, _, .array len e, _⟩ => atO .ptr o len n b (sizeO (T e))
    | _ => none
  | .gptr b o, .int _ n => match T t with
    | some ⟨_, _, .array len e, _⟩ => atO .gptr o len n b (sizeO (T e))
    | _ => none
  | _, _ => none
def byteV (s : ByteArray) (n : Int) : V := .int .u8 (s.data.toList.getD n.toNat 0).toNat
def indexV (T : TypeId → Option TI) (t : TypeId) : V → V → Option V
  | .str s, .int _ n => match T t with
    | some ⟨_, _, .str, _⟩ => grd (0 ≤ n ∧ n < (s.size : Int)) (some (byteV s n))
    | _ => none
  | .agg cs, .int _ n => match T t with
    | some ⟨_, _, .array len e, _⟩ => match T e with
      | some i => grd (0 ≤ n ∧ n < (len : Int)) (partV cs (n.toNat * i.size) (some i))
      | none => none
    | _ => none
  | _, _ => none
def mapE (H : LH) : V → Option (List (V × V))
  | .map b => H.mapAt b
  | .nilmap => some []
  | _ => none
/-- the entry of a key: its place and its value -/
def findM (k : V) : List (V × V) → Nat → Option (Option (Nat × V))
  | [], _ => some none
  | (k', v) :: es, i => match eqS k k' with
    | some true => some (some (i, v))
    | some false => findM k es (i + 1)
    | none => none
def keyOk (T : TypeId → Option TI) (kt : TypeId) : V → Bool
  | .str _ => match T kt with | some ⟨_, _, .str, _⟩ => true | _ => false
  | .int _ _ => match T kt with | some ⟨_, _, .int _, _⟩ => true | _ => false
  | _ => false
def lookO (H : LH) (ok : Bool) (z : V) : Option (Option (Nat × V)) → Option (V × LH)
  | some (some (_, v)) => match ok with
    | true => some (.tup [v, .bool true], H)
    | false => some (v, H)
  | some none => match ok with
    | true => some (.tup [z, .bool false], H)
    | false => some (z, H)
  | none => none
def entO (k : V) : Option (List (V × V)) → Option (Option (Nat × V))
  | some es => findM k es 0
  | none => none
def lookV (T : TypeId → Option TI) (t : TypeId) (ok : Bool) (H : LH) (m k : V) : Option (V × LH) :=
  match T t with
  | some ⟨_, _, .map kt et, _⟩ => match T et with
    | some ⟨_, _, _, some z⟩ => grd (keyOk T kt k = true) (lookO H ok z (entO k (mapE H m)))
    | _ => none
  | _ => none
def updO (H : LH) (b : Nat) (k v : V) : Option (List (V × V)) → Option (V × LH)
  | some es => match findM k es 0 with
    | some (some (j, _)) => some (und, H.set b (.map (es.set j (k, v))))
    | some none => some (und, H.set b (.map (es ++ [(k, v)])))
    | none => none
  | none => none
def updV (T : TypeId → Option TI) (t : TypeId) (fl : Nat) (H : LH) (k v : V) : V → Option (V × LH)
  | .map b => match T t with
    | some ⟨_, _, .map kt _, _⟩ => grd (keyOk T kt k = true ∧ fl ≤ b) (updO H b k v (H.mapAt b))
    | _ => none
  | _ => none
def extrV (i : Nat) : V → Option V
  | .tup vs => vs[i]?
  | _ => none

/-! ### builtins -/
def lenV (H : LH) : V → Option Nat
  | .str s => some s.size
  | .sl _ _ _ n _ => some n
  | .nilsl => some 0
  | .emp => some 0
  | .map b => match H.mapAt b with
    | some es => some es.length
    | none => none
  | .nilmap => some 0
  | _ => none
/-- is 'len' asked of a value of its type? -/
def lenOk (T : TypeId → Option TI) (t : TypeId) : V → Bool
  | .str _ => match T t with | some ⟨_, _, .str, _⟩ => true | _ => false
  | .sl _ _ _ _ _ => match T t with | some ⟨_, _, .slice _, _⟩ => true | _ => false
  | .nilsl => match T t with | some ⟨_, _, .slice _, _⟩ => true | _ => false
  | .emp => match T t with | some ⟨_, _, .slice _, _⟩ => true | _ => false
  | .map _ => match T t with | some ⟨_, _, .map _ _, _⟩ => true | _ => false
  | .nilmap => match T t with | some ⟨_, _, .map _ _, _⟩ => true | _ => false
  | _ => false
def numO (H : LH) : Option Nat → Option (V × LH)
  | some n => some (.int .i64 n, H)
  | none => none
/-- does what is appended fit the elements? -/
def srcOk (z : Nat) : V → Bool
  | .sl _ _ z' _ _ => z' == z
  | .str _ => z == 1
  | .nilsl => true
  | .emp => true
  | _ => false
def isIntT : Option TI → Bool
  | some ⟨_, _, .int _, _⟩ => true
  | some _ => false
  | none => true
def minV : V → V → Option V
  | .int k a, .int k' b => grd (k = k') (some (.int k (if b < a then b else a)))
  | _, _ => none
def maxV : V → V → Option V
  | .int k a, .int k' b => grd (k = k') (some (.int k (if a < b then b else a)))
  | _, _ => none
/-- append behind a slice that is not empty of room -/
def growO (H : LH) (b z n m : Nat) (new : List V) : Option (List V) → Option (V × LH)
  | some old => some (.sl H.length 0 z (n + m) (n + m), (H.set b .dead) ++ [.cells (old ++ new)])
  | none => none
def appO (fl bytes : Nat) (H : LH) (b o z n c m : Nat) (new : List V) : Option (List V) → Option (V × LH)
  | some cs =>
    if n + m ≤ c then grd (fl ≤ b ∧ o + (n + m) * z ≤ cs.length) (some (.sl b o z (n + m) c, H.set b (.cells (putAt cs (o + n * z) new))))
    else grd (fl ≤ b ∧ (n + m) * bytes ≤ mostCells) (growO H b z n m new (cut cs o (n * z)))
  | none => none
/-- append of 'm' elements with the cells 'new'; fl: the first block that may be written -/
def appendV (fl z bytes : Nat) (H : LH) (m : Nat) (new : List V) : V → Option (V × LH)
  | .nilsl => if m = 0 then some (.nilsl, H) else grd (m * bytes ≤ mostCells) (some (.sl H.length 0 z m m, H ++ [.cells new]))
  | .emp => if m = 0 then some (.emp, H) else grd (m * bytes ≤ mostCells) (some (.sl H.length 0 z m m, H ++ [.cells new]))
  | .sl b o z' n c => grd (z' = z) (if m = 0 then some (.sl b o z n c, H) else appO fl bytes H b o z n c m new (H.cellsAt b))
  | _ => none
def appV (T : TypeId → Option TI) (fl : Nat) (t t' : TypeId) (H : LH) (s x : V) : Option (V × LH) :=
  match elemI T t, lenV H x, slCells H x with
  | some ⟨z, by', _, some zv⟩, some m, some new => grd (srcOk z x = true ∧ isIntT (T t') = false ∧ 0 < z ∧ z ≤ by' ∧ zv.cells.length = z ∧ zv.isTup = false) (appendV fl z by' H m new s)
  | _, _, _ => none
def doBi (T : TypeId → Option TI) (fl : Nat) (H : LH) (b : Builtin) (ts : List TypeId) (vs : List (Option V)) : Option (V × LH) :=
  match b, ts, vs with
  | .len, t :: _, [some x] => grd (lenOk T t x = true) (numO H (lenV H x))
  | .min, _, [some x, some y] => withH H (minV x y)
  | .max, _, [some x, some y] => withH H (maxV x y)
  | .append, t :: t' :: _, [some s, some x] => appV T fl t t' H s x
  | _, _, _ => none

/-! ### one operation -/
def opds : Op → List Operand
  | .move x => [x]
  | .assign x => [x]
  | .pick c a b => [c, a, b]
  | .box _ x => [x]
  | .build _ ps => ps.toList.map (·.2)
  | .buildSlice _ _ ps => ps.toList.map (·.2)
  | .load _ a => [a]
  | .store _ a x => [a, x]
  | .nilCheck x => [x]
  | .binOp _ _ x y _ => [x, y]
  | .unOp _ _ x => [x]
  | .convert _ _ x => [x]
  | .makeFunc _ _ cs => cs.toList
  | .makeSlice _ l c => [l, c]
  | .slice _ x lo hi _ => x :: (lo.toList ++ hi.toList)
  | .fieldAddr _ x _ => [x]
  | .field _ x _ => [x]
  | .indexAddr _ x i => [x, i]
  | .index _ x i => [x, i]
  | .lookup _ x i _ => [x, i]
  | .mapUpdate _ m k v => [m, k, v]
  | .extract x _ => [x]
  | .call c => match c.callee with
    | .value f => f :: c.args.toList
    | _ => c.args.toList
  | _ => []
def pickV (H : LH) : V → V → V → Option (V × LH)
  | .bool true, a, _ => some (a, H)
  | .bool false, _, b => some (b, H)
  | _, _, _ => none
def fnO (H : LH) (f : FuncId) : Option (List V) → Option (V × LH)
  | some vs => some (.fn f vs, H)
  | none => none
def mapO (H : LH) : Option TI → Option (V × LH)
  | some ⟨_, _, .map _ _, _⟩ => some (.map H.length, H ++ [.map []])
  | _ => none
def zeroO (H : LH) : Option TI → Option (V × LH)
  | some ⟨_, _, _, some z⟩ => ptrV H z
  | _ => none
def loadO (G : Nat → Option (List V)) (H : LH) (v : V) : Option TI → Option (V × LH)
  | some i => loadV G H i.kind.isAgg i.size v
  | none => none
def storeT (fl : Nat) (H : LH) (a v : V) : Option TI → Option (V × LH)
  | some i => storeV fl H i.size v a
  | none => none
def callV (call : FuncId → List V → Nat → LH → Option (V × LH)) (fl : Nat) (H : LH) : V → Option (List V) → Option (V × LH)
  | .fn f caps, some vs => call f (vs ++ caps) fl H
  | _, _ => none
def doCall (call : FuncId → List V → Nat → LH → Option (V × LH)) (T : TypeId → Option TI) (fl : Nat) (H : LH) (c : Call) (vs : List (Option V)) : Option (V × LH) :=
  match c.callee, vs with
  | .builtin b, vs => doBi T fl H b c.argTypes.toList vs
  | .value _, some f :: vs => callV call fl H f (allV vs)
  | _, _ => none
def doOp (call : FuncId → List V → Nat → LH → Option (V × LH)) (T : TypeId → Option TI) (G : Nat → Option (List V)) (fl : Nat) (H : LH) (o : Op) (vs : List (Option V)) : Option (V × LH) :=
  match o, vs with
  | .move _, [some v] => some (v, H)
  | .assign _, [some v] => some (v, H)
  | .pick _ _ _, [some c, some a, some b] => pickV H c a b
  | .alloc t, [] => zeroO H (T t)
  | .box _ _, [some v] => ptrV H v
  | .build t ps, vs => withH H (buildV T t (ps.toList.map (·.1)) (allV vs))
  | .buildSlice t n ps, vs => buildL T t n (ps.toList.map (·.1)) H (allV vs)
  | .load t _, [some a] => loadO G H a (T t)
  | .store t _ _, [some a, some v] => storeT fl H a v (T t)
  | .nilCheck _, [some v] => ptrOk H v
  | .binOp op t _ _ _, [some x, some y] => withH H (binV T op t x y)
  | .unOp op _ _, [some x] => withH H (unV op x)
  | .convert s d _, [some v] => convV T fl H s d v
  | .makeFunc (.func f) ⟨[]⟩ _, vs => fnO H f (allV vs)
  | .makeMap t none, [] => mapO H (T t)
  | .makeSlice t _ _, [some l, some c] => makeV H (elemI T t) l c
  | .slice t _ none none none, [some x] => grd (sliceOk T t x = true) (withH H (sliceV x none none))
  | .slice t _ (some _) none none, [some x, some l] => grd (sliceOk T t x = true) (withH H (sliceV x (some l) none))
  | .slice t _ none (some _) none, [some x, some h] => grd (sliceOk T t x = true) (withH H (sliceV x none (some h)))
  | .slice t _ (some _) (some _) none, [some x, some l, some h] => grd (sliceOk T t x = true) (withH H (sliceV x (some l) (some h)))
  | .fieldAddr t _ f, [some v] => withH H (fieldA T t f v)
  | .field t _ f, [some v] => withH H (fieldV T t f v)
  | .indexAddr t _ _, [some v, some n] => withH H (indexA T t v n)
  | .index t _ _, [some v, some n] => withH H (indexV T t v n)
  | .lookup t _ _ ok, [some m, some k] => lookV T t ok H m k
  | .mapUpdate t _ _ _, [some m, some k, some v] => updV T t fl H k v m
  | .extract _ i, [some v] => withH H (extrV i v)
  | .call c, vs => doCall call T fl H c vs
  | _, _ => none

/-! ### code -/
structure Ctx where
  T : TypeId → Option TI
  G : Nat → Option (List V)
  call : FuncId → List V → Nat → LH → Option (V × LH)
  loop : List Tmp → Nat → Code → Env → LH → Option (Ex × Env × LH)
  keep : List Tmp
  fl : Nat

/-- is an operation wanted, by its guard? -/
def wantO (w : Bool) : Option V → Option Bool
  | some (.bool b) => some (b == w)
  | some (.tup []) => some false
  | _ => none
def dstOf (ops : List Oper) (j : Nat) : Option Tmp := match ops[j]? with | some o => o.dst | none => none
def wantV (X : Ctx) (ops : List Oper) (e : Env) (l : Loc) : Option (Nat × Bool) → Option Bool
  | none => some true
  | some (j, w) => match dstOf ops j with
    | some d => wantO w (lookL X.keep e l d)
    | none => none
def putL : Option Tmp → V → Loc → Loc
  | some t, v, l => (t, v) :: l
  | none, _, l => l
/-- do two addresses lie in different blocks? -/
def apartV : Option V → Option V → Bool
  | some (.ptr b _), some (.ptr b' _) => decide (b ≠ b')
  | some (.gptr _ _), some (.ptr _ _) => true
  | _, _ => false
/-- a store that loads listed ahead of it need not wait for: it does not hit their blocks -/
def flt1 (keep : List Tmp) (e : Env) (l : Loc) (adr : Operand) : Option Oper → Bool
  | some ⟨_, .load _ a, _, _, _, _⟩ => apartV (evalO keep e l a) (evalO keep e l adr)
  | _ => true
def fltE (keep : List Tmp) (ops : List Oper) (e : Env) (l : Loc) (adr : Operand) : List Edge → Bool
  | [] => true
  | ⟨j, .textOnly _⟩ :: es => flt1 keep e l adr ops[j]? && fltE keep ops e l adr es
  | _ :: es => fltE keep ops e l adr es
def fltC (keep : List Tmp) (ops : List Oper) (e : Env) (l : Loc) : Op → Array Edge → Bool
  | .store _ adr _, ⟨es⟩ => fltE keep ops e l adr es
  | _, _ => true
def stepO (X : Ctx) (ops : List Oper) (e : Env) (l : Loc) (H : LH) (o : Oper) : Option (V × LH) :=
  match o.dst with
  | some _ => doOp X.call X.T X.G X.fl H o.op (evalL X.keep e l (opds o.op))
  | none => grd (fltC X.keep ops e l o.op o.after = true) (doOp X.call X.T X.G X.fl H o.op (evalL X.keep e l (opds o.op)))
def opsV (X : Ctx) (ops : List Oper) (e : Env) : List Oper → Loc → LH → Option (Loc × LH)
  | [], l, H => some (l, H)
  | o :: rest, l, H =>
    match wantV X ops e l o.guard with
    | some true => match stepO X ops e l H o with
      | some (v, H) => opsV X ops e rest (putL o.dst v l) H
      | none => none
    | some false => opsV X ops e rest (putL o.dst und l) H
    | none => none
def exec (X : Ctx) : Code → Env → LH → Option (Ex × Env × LH)
  | .skip, e, H => some (.nrm, e, H)
  | .label _, e, H => some (.nrm, e, H)
  | .region _ ops _, e, H => match opsV X ops.toList e ops.toList [] H with
    | some (l, H) => some (.nrm, keepE X.keep e l, H)
    | none => none
  | .seq a b, e, H => match exec X a e H with
    | some (.nrm, e, H) => exec X b e H
    | r => r
  | .cond c a b, e, H => match evalO X.keep e [] c with
    | some (.bool true) => exec X a e H
    | some (.bool false) => exec X b e H
    | _ => none
  | .block id c, e, H => match exec X c e H with
    | some (.exit j, e, H) => if j = id then some (.nrm, e, H) else some (.exit j, e, H)
    | r => r
  | .loop c, e, H => X.loop X.keep X.fl c e H
  | .exit id, e, H => some (.exit id, e, H)
  | .ret, e, H => some (.ret, e, H)
  | _, _, _ => none

/-! ### functions -/
def enterE : List Tmp → List V → Env
  | [], _ => []
  | t :: ts, args => args[t]? :: enterE ts args
def valO : Option (V × LH) → Option V
  | some (v, _) => some v
  | none => none
def resV (X : Ctx) (env : Env) (H : LH) : List ResultVar → List (Option V)
  | [] => []
  | .tmp t :: rs => lookE X.keep env t :: resV X env H rs
  | .cell a t :: rs => (match lookE X.keep env a with
      | some va => valO (loadO X.G H va (X.T t))
      | none => none) :: resV X env H rs
def oneV : List V → V
  | [v] => v
  | [] => .tup []
  | u :: v :: vs => .tup (u :: v :: vs)
/-- what a call leaves -/
def leave (m : Mode) (H H' : LH) : Option (List V) → Option (V × LH)
  | some vs => match m with
    | .pure => grd ((oneV vs).noAddr = true) (some (oneV vs, H))
    | .fresh => some (oneV vs, H')
    | .any => some (oneV vs, H')
  | none => none
def floor (m : Mode) (fl : Nat) (H : LH) : Nat :=
  match m with
  | .any => fl
  | .pure => H.length
  | .fresh => H.length
def leaveX (X : Ctx) (m : Mode) (H : LH) (rs : List ResultVar) : Option (Ex × Env × LH) → Option (V × LH)
  | some (.nrm, e, H') => leave m H H' (allV (resV X e H' rs))
  | some (.ret, e, H') => leave m H H' (allV (resV X e H' rs))
  | _ => none

end Go.Proofs.YtbjpecknlohicaaDoor.Lg
