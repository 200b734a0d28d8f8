/- The logical machine and its contracts, part 1. No condition. -/
import Derived.Calls
import Derived.LoopN
import Derived.Orders
import Derived.Tactics
import Derived.KernelRfl
import Derived.Lib.Repeat
import Derived.Lib.Join
import Derived.Lib.Replace
import Derived.Lib.CountLaws
import Derived.Below
import Derived.Laws.Cells
import Derived.Laws.CopyRow
import Derived.Laws.StructEq
import Derived.Laws.Strings
import Derived.Laws.BytesString
import Derived.Laws.MakeOwn
import Derived.Laws.Append
namespace Go.Proofs.YthlbglmfdjdagaaGreatDoor.Lg
set_option linter.unusedSimpArgs false
set_option linter.unusedVariables false
inductive V where
 | bool (b : Bool)
 | int (k : IntKind) (n : Int)
 | str (s : ByteArray)
 | ptr (b o : Nat)
 | gptr (g o : Nat)
 | nilp
 | sl (b o z n c : Nat)
 | nilsl
 | emp
 | map (b : Nat)
 | nilmap
 | fn (f : FuncId) (caps : List V)
 | nilfn
 | agg (cs : List V)
 | tup (vs : List V)
abbrev und : V := .tup []
inductive Blk where
 | cells (cs : List V)
 | map (es : List (V × V))
 | dead
abbrev LH := List Blk
abbrev Env := List (Option V)
abbrev Loc := List (Tmp × V)
inductive Ex where
 | nrm
 | exit (id : Nat)
 | ret
def grd {α : Type} (c : Prop) [Decidable c] (x : Option α) : Option α := if c then x else none
inductive Mode where
 | pure | fresh | any
 deriving DecidableEq
inductive LibK where
 | rep | join | repl
 deriving DecidableEq
structure Cfg where
 keep : FuncId → List Tmp
 mode : FuncId → Mode
 glob : Nat → Option (List V)
 ord : FuncId → List (Nat × List Nat × List (Nat × Nat)) := fun _ => []
 lib : FuncId → Option LibK := fun _ => none
def V.cells : V → List V
 | .agg cs => cs
 | .bool b => [.bool b]
 | .int k n => [.int k n]
 | .str s => [.str s]
 | .ptr b o => [.ptr b o]
 | .gptr b o => [.gptr b o]
 | .nilp => [.nilp]
 | .sl b o z n c => [.sl b o z n c]
 | .nilsl => [.nilsl]
 | .emp => [.emp]
 | .map b => [.map b]
 | .nilmap => [.nilmap]
 | .fn f c => [.fn f c]
 | .nilfn => [.nilfn]
 | .tup c => [.tup c]
def V.isTup : V → Bool
 | .tup _ => true
 | _ => false
def V.isScal : V → Bool
 | .tup _ => false
 | .agg _ => false
 | _ => true
mutual
def V.noAddr : V → Bool
 | .bool _ => true
 | .int _ _ => true
 | .str _ => true
 | .nilp => true
 | .nilsl => true
 | .emp => true
 | .nilmap => true
 | .nilfn => true
 | .gptr _ _ => true
 | .agg cs => V.noAddrs cs
 | .tup cs => V.noAddrs cs
 | .ptr _ _ => false
 | .sl _ _ _ _ _ => false
 | .map _ => false
 | .fn _ _ => false
def V.noAddrs : List V → Bool
 | [] => true
 | v :: vs => v.noAddr && V.noAddrs vs
end
def scal : Value → Option V
 | .bool b => some (.bool b)
 | .int k n => some (.int k n)
 | .string s => some (.str s)
 | .pointer none => some .nilp
 | .slice none 0 0 => some .nilsl
 | .map none => some .nilmap
 | .nilFunc => some .nilfn
 | .func (.func f) ⟨[]⟩ ⟨[]⟩ => some (.fn f [])
 | _ => none
def IR : List Value → Option (List V)
 | [] => some []
 | v :: vs => match scal v, IR vs with
   | some x, some xs => some (x :: xs)
   | _, _ => none
def ofValue : Value → Option V
 | .agg ⟨cs⟩ => (IR cs).map .agg
 | .tuple ⟨[]⟩ => some (.tup [])
 | v => scal v
inductive TK where
 | bool | int (k : IntKind) | str
 | slice (e : TypeId)
 | array (n : Nat) (e : TypeId)
 | map (k e : TypeId)
 | struct (fs : List (Nat × TypeId)) (flat : Option (List Nat))
 | other
structure TI where
 size : Nat
 bytes : Nat
 kind : TK
 zero : Option V
def Cs (P : Program) : Nat → List Field → Option (List Nat)
 | _, [] => some []
 | o, f :: fs => if f.name != "_" && f.offset == o then
    match P.underlying f.type, Cs P (o + 1) fs with
    | some .bool, some l => some (0 :: l)
    | some (.int _), some l => some (1 :: l)
    | some .string, some l => some (2 :: l)
    | _, _ => none
   else none
def tkOf (P : Program) (t : TypeId) : TypeDesc → TK
 | .bool => .bool
 | .int k => .int k
 | .string => .str
 | .slice e => .slice e
 | .array n e => .array n e
 | .map k e => .map k e
 | .struct fs => .struct (fs.toList.map fun f => (f.offset, f.type)) (if P.stoodInHeld t then none else Cs P 0 fs.toList)
 | _ => .other
def ty (P : Program) (t : TypeId) : Option TI :=
 match P.info? t, P.underlying t with
 | some i, some d => some { size := i.size, bytes := i.bytes, kind := tkOf P t d, zero := i.zero.bind ofValue }
 | _, _ => none
def TK.isAgg : TK → Bool
 | .struct _ _ => true
 | .array _ _ => true
 | _ => false
def CC : List Tmp → Env → Tmp → Option V
 | k :: ks, e :: es, t => if k = t then e else CC ks es t
 | _, _, _ => none
def B2 (keep : List Tmp) (env : Env) : Loc → Tmp → Option V
 | [], t => CC keep env t
 | (t', v) :: l, t => if t' = t then some v else B2 keep env l t
def Al (keep : List Tmp) (env : Env) (l : Loc) : Operand → Option V
 | .tmp t => B2 keep env l t
 | .const v => ofValue v
 | .global g => some (.gptr g 0)
 | .func f => some (.fn f [])
def Af (keep : List Tmp) (env : Env) (l : Loc) : List Operand → List (Option V)
 | [] => []
 | x :: xs => Al keep env l x :: Af keep env l xs
def allV : List (Option V) → Option (List V)
 | [] => some []
 | some v :: vs => match allV vs with
   | some l => some (v :: l)
   | none => none
 | none :: _ => none
def KR : Loc → Tmp → Option V → Option V
 | [], _, d => d
 | (t', v) :: l, t, d => if t' = t then some v else KR l t d
def DY : List Tmp → Env → Loc → Env
 | k :: ks, e :: es, l => KR l k e :: DY ks es l
 | _, _, _ => []
def LH.cellsAt (H : LH) (b : Nat) : Option (List V) := match H[b]? with | some (.cells cs) => some cs | _ => none
def LH.mapAt (H : LH) (b : Nat) : Option (List (V × V)) := match H[b]? with | some (.map es) => some es | _ => none
def cut (cs : List V) (o n : Nat) : Option (List V) := grd (o + n ≤ cs.length) (some ((cs.drop o).take n))
def Bw (cs : List V) (o : Nat) : List V → List V
 | [] => cs
 | x :: xs => Bw (cs.set o x) (o + 1) xs
def one : List V → Option V
 | [x] => some x
 | _ => none
def D6 (s : ByteArray) : List V := s.data.toList.map fun b => .int .u8 b.toNat
def Fh (o n : Nat) : Option (List V) → Option (List V)
 | some cs => cut cs o n
 | none => none
def AW (H : LH) : V → Option (List V)
 | .sl b o z n _ => Fh o (n * z) (H.cellsAt b)
 | .nilsl => some []
 | .emp => some []
 | .str s => some (D6 s)
 | _ => none
def Gb (place : Nat → Option (Nat × Nat)) (cells : List V) : List (Nat × V) → Option (List V)
 | [] => some cells
 | (i, v) :: rest =>
   match place i with
   | some (off, size) => grd (v.cells.length = size ∧ off + size ≤ cells.length ∧ v.isTup = false) (Gb place (Bw cells off v.cells) rest)
   | none => none
def Aj : Nat := 2 ^ 40
def Fz (z : V) (n : Nat) : List V := (List.replicate n z.cells).flatten
def cmpI (op : BinOp) (a b : Int) : Option V :=
 match op with
 | .eql => some (.bool (decide (a = b)))
 | .neq => some (.bool (!decide (a = b)))
 | .lss => some (.bool (decide (a < b)))
 | .leq => some (.bool (decide (a ≤ b)))
 | .gtr => some (.bool (decide (b < a)))
 | .geq => some (.bool (decide (b ≤ a)))
 | _ => none
def C4 (op : BinOp) (k : IntKind) (x y : Int) : Option V :=
 match op with
 | .and => some (.int k (k.wrap (BitVec.ofInt k.bits x &&& BitVec.ofInt k.bits y).toNat))
 | .or => some (.int k (k.wrap (BitVec.ofInt k.bits x ||| BitVec.ofInt k.bits y).toNat))
 | .xor => some (.int k (k.wrap (BitVec.ofInt k.bits x ^^^ BitVec.ofInt k.bits y).toNat))
 | .andNot => some (.int k (k.wrap (BitVec.ofInt k.bits x &&& ~~~ BitVec.ofInt k.bits y).toNat))
 | _ => none
def eqS : V → V → Option Bool
 | .bool a, .bool b => some (a == b)
 | .int k a, .int k' b => grd (k = k') (some (decide (a = b)))
 | .str a, .str b => some (decide (a = b))
 | _, _ => none
def Sq : V → Nat
 | .bool _ => 0
 | .int _ _ => 1
 | .str _ => 2
 | _ => 3
def andO : Option Bool → Option Bool → Option Bool
 | some b, some c => some (b && c)
 | _, _ => none
def eqL : List Nat → List V → List V → Option Bool
 | [], [], [] => some true
 | k :: ks, x :: xs, y :: ys => grd (Sq x = k) (andO (eqS x y) (eqL ks xs ys))
 | _, _, _ => none
def notO : Option Bool → Option V
 | some b => some (.bool !b)
 | none => none
def yesO : Option Bool → Option V
 | some b => some (.bool b)
 | none => none
def binI (op : BinOp) (k : IntKind) (a : Int) (k' : IntKind) (b : Int) : Option V :=
 match op with
 | .shl => grd (0 ≤ b) (some (.int k (k.wrap (a * 2 ^ (min b.toNat k.bits)))))
 | .shr => grd (0 ≤ b) (some (.int k (a.fdiv (2 ^ (min b.toNat k.bits)))))
 | .add => grd (k = k') (some (.int k (k.wrap (a + b))))
 | .sub => grd (k = k') (some (.int k (k.wrap (a - b))))
 | .mul => grd (k = k') (some (.int k (k.wrap (a * b))))
 | .quo => grd (k = k' ∧ b ≠ 0) (some (.int k (k.wrap (a.tdiv b))))
 | .rem => grd (k = k' ∧ b ≠ 0) (some (.int k (a.tmod b)))
 | .and => grd (k = k') (C4 .and k a b)
 | .or => grd (k = k') (C4 .or k a b)
 | .xor => grd (k = k') (C4 .xor k a b)
 | .andNot => grd (k = k') (C4 .andNot k a b)
 | .eql => grd (k = k') (cmpI .eql a b)
 | .neq => grd (k = k') (cmpI .neq a b)
 | .lss => grd (k = k') (cmpI .lss a b)
 | .leq => grd (k = k') (cmpI .leq a b)
 | .gtr => grd (k = k') (cmpI .gtr a b)
 | .geq => grd (k = k') (cmpI .geq a b)
def binS (op : BinOp) (a b : ByteArray) : Option V :=
 match op with
 | .add => grd (a.size + b.size ≤ 9223372036854775807) (some (.str (a ++ b)))
 | .eql => some (.bool (decide (a = b)))
 | .neq => some (.bool (!decide (a = b)))
 | _ => none
def nilO : V → Option Bool
 | .nilsl => some true
 | .emp => some false
 | .sl _ _ _ _ _ => some false
 | _ => none
def binV (T : TypeId → Option TI) (op : BinOp) (t : TypeId) : V → V → Option V
 | .int k a, .int k' b => binI op k a k' b
 | .str a, .str b => binS op a b
 | .bool a, .bool b => match op, T t with
   | .eql, some ⟨_, _, .bool, _⟩ => some (.bool (a == b))
   | .neq, some ⟨_, _, .bool, _⟩ => some (.bool (!(a == b)))
   | _, _ => none
 | .agg a, .agg b => match op, T t with
   | .eql, some ⟨_, _, .struct _ (some ks), _⟩ => yesO (eqL ks a b)
   | .neq, some ⟨_, _, .struct _ (some ks), _⟩ => notO (eqL ks a b)
   | _, _ => none
 | x, .nilsl => match op, T t with
   | .eql, some ⟨_, _, .slice _, _⟩ => yesO (nilO x)
   | .neq, some ⟨_, _, .slice _, _⟩ => notO (nilO x)
   | _, _ => none
 | _, _ => none
def unV (op : UnOp) : V → Option V
 | .int k n => match op with
   | .neg => some (.int k (k.wrap (0 - n)))
   | _ => none
 | .bool b => match op with
   | .not => some (.bool !b)
   | _ => none
 | _ => none
def Ja (v : V) (y : Nat) : Option Nat := match v with | .int _ i => grd (0 ≤ i ∧ i ≤ (y : Int)) (some i.toNat) | _ => none
def hiV (d y : Nat) : Option V → Option Nat
 | some v => Ja v y
 | none => some d
def cutS (s : ByteArray) : Option Nat → Option Nat → Option V
 | some h, some l => grd (l ≤ h) (some (.str (s.extract l h)))
 | _, _ => none
def cutL (b o z c : Nat) : Option Nat → Option Nat → Option V
 | some h, some l => grd (l ≤ h) (some (.sl b (o + l * z) z (h - l) (c - l)))
 | _, _ => none
def cutN : Option Nat → Option Nat → Option V
 | some _, some _ => some .nilsl
 | _, _ => none
def cutE : Option Nat → Option Nat → Option V
 | some _, some _ => some .emp
 | _, _ => none
def BN (x : V) (lo hi : Option V) : Option V :=
 match x with
 | .str s => cutS s (hiV s.size s.size hi) (hiV 0 s.size lo)
 | .sl b o z n c => cutL b o z c (hiV n c hi) (hiV 0 c lo)
 | .nilsl => cutN (hiV 0 0 hi) (hiV 0 0 lo)
 | .emp => cutE (hiV 0 0 hi) (hiV 0 0 lo)
 | _ => none
def E7 : List V → Option (List UInt8)
 | [] => some []
 | .int .u8 n :: cs => match E7 cs with
   | some l => some (UInt8.ofNat n.toNat :: l)
   | none => none
 | _ => none
def ptrV (H : LH) (v : V) : Option (V × LH) := grd (v.isTup = false) (some (.ptr H.length 0, H ++ [.cells v.cells]))
def AY (H : LH) : Option V → Option (V × LH)
 | some v => some (v, H)
 | none => none
def aggO : Option (List V) → Option V
 | some cs => some (.agg cs)
 | none => none
def Qu (T : TypeId → Option TI) (fs : List (Nat × TypeId)) (i : Nat) : Option (Nat × Nat) :=
 match fs[i]? with
 | some (off, ft) => match T ft with
   | some i => some (off, i.size)
   | none => none
 | none => none
def JU (T : TypeId → Option TI) : List (Nat × TypeId) → Option (List (Nat × Nat))
 | [] => some []
 | (off, t) :: fs => match T t, JU T fs with
   | some i, some l => some ((off, i.size) :: l)
   | _, _ => none
def M9 (z : V) (parts : List (Nat × V)) : Option (List (Nat × Nat)) → Option V
 | some ps => grd (z.isTup = false) (aggO (Gb (fun i => ps[i]?) z.cells parts))
 | none => none
def G8 (T : TypeId → Option TI) (t : TypeId) (ixs : List Nat) : Option (List V) → Option V
 | none => none
 | some vs =>
   match T t with
   | some ⟨_, _, .array _ e, some z⟩ => match T e with
     | some i => grd (z.isTup = false) (aggO (Gb (fun j => some (j * i.size, i.size)) z.cells (ixs.zip vs)))
     | none => none
   | some ⟨_, _, .struct fs _, some z⟩ => M9 z (ixs.zip vs) (JU T fs)
   | _ => none
def rowO (H : LH) (sz n : Nat) : Option (List V) → Option (V × LH)
 | some cs => some (.sl H.length 0 sz n n, H ++ [.cells cs])
 | none => none
def D5 (T : TypeId → Option TI) (t : TypeId) (n : Nat) (ixs : List Nat) (H : LH) : Option (List V) → Option (V × LH)
 | none => none
 | some vs =>
   match T t with
   | some ⟨_, _, .slice e, _⟩ => match T e with
     | some ⟨sz, _, _, some z⟩ => grd (0 < sz ∧ z.cells.length = sz ∧ n * sz ≤ 16777216 ∧ z.isTup = false) (rowO H sz n (Gb (fun i => some (i * sz, sz)) (Fz z n) (ixs.zip vs)))
     | _ => none
   | _ => none
def BF (H : LH) (g : Bool) (o n : Nat) : Option (List V) → Option (V × LH)
 | some cs => match g with
   | true => grd (o + n ≤ cs.length) (some (.agg ((cs.drop o).take n), H))
   | false => match cs[o]? with
     | some v => some (v, H)
     | none => none
 | none => none
def Gi (G : Nat → Option (List V)) (H : LH) (g : Bool) (n : Nat) : V → Option (V × LH)
 | .ptr b o => BF H g o n (H.cellsAt b)
 | .gptr b o => BF H g o n (G b)
 | _ => none
def GM (fl : Nat) (H : LH) (b o n : Nat) (v : V) : Option (List V) → Option (V × LH)
 | some cs => grd (v.cells.length = n ∧ o + n ≤ cs.length ∧ fl ≤ b ∧ v.isTup = false) (some (und, H.set b (.cells (Bw cs o v.cells))))
 | none => none
def HJ (fl : Nat) (H : LH) (n : Nat) (v : V) : V → Option (V × LH)
 | .ptr b o => GM fl H b o n v (H.cellsAt b)
 | _ => none
def JW (H : LH) : V → Option (V × LH)
 | .ptr b o => some (.ptr b o, H)
 | .gptr b o => some (.gptr b o, H)
 | _ => none
def strO (H : LH) : Option (List UInt8) → Option (V × LH)
 | some l => some (.str ⟨l.toArray⟩, H)
 | none => none
def He (H : LH) : Option (List V) → Option (V × LH)
 | some cs => strO H (E7 cs)
 | none => none
def DJ (T : TypeId → Option TI) (fl : Nat) (H : LH) (s d : TypeId) (v : V) : Option (V × LH) :=
 match T s, T d with
 | some ⟨_, _, .int _, _⟩, some ⟨_, _, .int k, _⟩ => match v with
   | .int _ n => some (.int k (k.wrap n), H)
   | _ => none
 | some ⟨_, _, .int _, _⟩, some ⟨_, _, .str, _⟩ => match v with
   | .int _ n => some (.str (Utf8.encode n), H)
   | _ => none
 | some ⟨_, _, .slice e, _⟩, some ⟨_, _, .str, _⟩ => match T e, v with
   | some ⟨_, _, .int .u8, _⟩, .sl b o z n c => grd (z = 1) (He H (AW H (.sl b o z n c)))
   | some ⟨_, _, .int .u8, _⟩, .nilsl => some (.str ⟨#[]⟩, H)
   | some ⟨_, _, .int .u8, _⟩, .emp => some (.str ⟨#[]⟩, H)
   | _, _ => none
 | some ⟨_, _, .str, _⟩, some ⟨_, _, .slice e, _⟩ => match T e, v with
   | some ⟨_, _, .int .u8, _⟩, .str s => some (.sl H.length 0 1 s.size s.size, H ++ [.cells (D6 s)])
   | _, _ => none
 | some ⟨_, _, .str, _⟩, some ⟨_, _, .str, _⟩ => match v with
   | .str s => some (.str s, H)
   | _ => none
 | some ⟨_, _, .slice _, _⟩, some ⟨_, _, .slice e, _⟩ => match T e, v with
   | some ⟨_, _, .int .u8, _⟩, .sl b o z n c => grd (s = d ∧ fl ≤ b ∧ (H.cellsAt b).isSome = true) (some (.sl b o z n c, H))
   | _, _ => none
 | _, _ => none
def Gk (H : LH) : Option TI → V → V → Option (V × LH)
 | some ⟨sz, by', _, some z⟩, .int _ nl, .int _ nc => grd (0 ≤ nl ∧ nl ≤ nc ∧ nc < 9223372036854775808 ∧ (by' : Int) * nc ≤ Aj ∧ z.cells.length = sz ∧ 0 < sz ∧ z.isTup = false)
    (some (.sl H.length 0 sz nl.toNat nc.toNat, H ++ [.cells (Fz z nc.toNat)]))
 | _, _, _ => none
def Av (T : TypeId → Option TI) (t : TypeId) : Option TI :=
 match T t with
 | some ⟨_, _, .slice e, _⟩ => T e
 | _ => none
def AC : Option TI → Option Nat
 | some i => some i.size
 | none => none
def Bh (T : TypeId → Option TI) (t : TypeId) : V → Bool
 | .str _ => match T t with | some ⟨_, _, .str, _⟩ => true | _ => false
 | .sl _ _ z _ _ => AC (Av T t) == some z
 | .nilsl => (Av T t).isSome
 | .emp => (Av T t).isSome
 | _ => false
def addO (off : Nat) : V → Option V
 | .ptr b o => some (.ptr b (o + off))
 | .gptr g o => some (.gptr g (o + off))
 | _ => none
def Hl (T : TypeId → Option TI) (t : TypeId) (f : Nat) (v : V) : Option V :=
 match T t with
 | some ⟨_, _, .struct fs _, _⟩ => match Qu T fs f with
   | some (off, n) => grd (0 < n) (addO off v)
   | none => none
 | _ => none
def Ll (cs : List V) (off : Nat) : Option TI → Option V
 | some i => match i.kind.isAgg with
   | true => grd (off + i.size ≤ cs.length) (some (.agg ((cs.drop off).take i.size)))
   | false => cs[off]?
 | none => none
def Hm (T : TypeId → Option TI) (t : TypeId) (f : Nat) : V → Option V
 | .agg cs => match T t with
   | some ⟨_, _, .struct fs _, _⟩ => match fs[f]? with
     | some (off, ft) => Ll cs off (T ft)
     | none => none
   | _ => none
 | _ => none
def atO (k : Nat → Nat → V) (o : Nat) (len : Nat) (n : Int) (b : Nat) : Option Nat → Option V
 | some z => grd (0 ≤ n ∧ n < (len : Int)) (some (k b (o + n.toNat * z)))
 | none => none
def DN (T : TypeId → Option TI) (t : TypeId) : V → V → Option V
 | .sl b o z len _, .int _ n => grd (AC (Av T t) = some z) (grd (0 ≤ n ∧ n < (len : Int)) (some (.ptr b (o + n.toNat * z))))
 | .ptr b o, .int _ n => match T t with
   | some ⟨_, _, .array len e, _⟩ => atO .ptr o len n b (AC (T e))
   | _ => none
 | .gptr b o, .int _ n => match T t with
   | some ⟨_, _, .array len e, _⟩ => atO .gptr o len n b (AC (T e))
   | _ => none
 | _, _ => none
def Nm (s : ByteArray) (n : Int) : V := .int .u8 (s.data.toList.getD n.toNat 0).toNat
def Hp (T : TypeId → Option TI) (t : TypeId) : V → V → Option V
 | .str s, .int _ n => match T t with
   | some ⟨_, _, .str, _⟩ => grd (0 ≤ n ∧ n < (s.size : Int)) (some (Nm s n))
   | _ => none
 | .agg cs, .int _ n => match T t with
   | some ⟨_, _, .array len e, _⟩ => match T e with
     | some i => grd (0 ≤ n ∧ n < (len : Int)) (Ll cs (n.toNat * i.size) (some i))
     | none => none
   | _ => none
 | _, _ => none
def mapE (H : LH) : V → Option (List (V × V))
 | .map b => H.mapAt b
 | .nilmap => some []
 | _ => none
def CB (k : V) : List (V × V) → Nat → Option (Option (Nat × V))
 | [], _ => some none
 | (k', v) :: es, i => match eqS k k' with
   | some true => some (some (i, v))
   | some false => CB k es (i + 1)
   | none => none
def C9 (T : TypeId → Option TI) (kt : TypeId) : V → Bool
 | .str _ => match T kt with | some ⟨_, _, .str, _⟩ => true | _ => false
 | .int _ _ => match T kt with | some ⟨_, _, .int _, _⟩ => true | _ => false
 | _ => false
def Cb (H : LH) (ok : Bool) (z : V) : Option (Option (Nat × V)) → Option (V × LH)
 | some (some (_, v)) => match ok with
   | true => some (.tup [v, .bool true], H)
   | false => some (v, H)
 | some none => match ok with
   | true => some (.tup [z, .bool false], H)
   | false => some (z, H)
 | none => none
def entO (k : V) : Option (List (V × V)) → Option (Option (Nat × V))
 | some es => CB k es 0
 | none => none
def Cc (T : TypeId → Option TI) (t : TypeId) (ok : Bool) (H : LH) (m k : V) : Option (V × LH) :=
 match T t with
 | some ⟨_, _, .map kt et, _⟩ => match T et with
   | some ⟨_, _, _, some z⟩ => grd (C9 T kt k = true) (Cb H ok z (entO k (mapE H m)))
   | _ => none
 | _ => none
def updO (H : LH) (b : Nat) (k v : V) : Option (List (V × V)) → Option (V × LH)
 | some es => match CB k es 0 with
   | some (some (j, _)) => some (und, H.set b (.map (es.set j (k, v))))
   | some none => some (und, H.set b (.map (es ++ [(k, v)])))
   | none => none
 | none => none
def updV (T : TypeId → Option TI) (t : TypeId) (fl : Nat) (H : LH) (k v : V) : V → Option (V × LH)
 | .map b => match T t with
   | some ⟨_, _, .map kt _, _⟩ => grd (C9 T kt k = true ∧ fl ≤ b) (updO H b k v (H.mapAt b))
   | _ => none
 | _ => none
def Nu (i : Nat) : V → Option V
 | .tup vs => vs[i]?
 | _ => none
def lenV (H : LH) : V → Option Nat
 | .str s => some s.size
 | .sl _ _ _ n _ => some n
 | .nilsl => some 0
 | .emp => some 0
 | .map b => match H.mapAt b with
   | some es => some es.length
   | none => none
 | .nilmap => some 0
 | _ => none
def lenOk (T : TypeId → Option TI) (t : TypeId) : V → Bool
 | .str _ => match T t with | some ⟨_, _, .str, _⟩ => true | _ => false
 | .sl _ _ _ _ _ => match T t with | some ⟨_, _, .slice _, _⟩ => true | _ => false
 | .nilsl => match T t with | some ⟨_, _, .slice _, _⟩ => true | _ => false
 | .emp => match T t with | some ⟨_, _, .slice _, _⟩ => true | _ => false
 | .map _ => match T t with | some ⟨_, _, .map _ _, _⟩ => true | _ => false
 | .nilmap => match T t with | some ⟨_, _, .map _ _, _⟩ => true | _ => false
 | _ => false
def numO (H : LH) : Option Nat → Option (V × LH)
 | some n => some (.int .i64 n, H)
 | none => none
def LJ (z : Nat) : V → Bool
 | .sl _ _ z' _ _ => z' == z
 | .str _ => z == 1
 | .nilsl => true
 | .emp => true
 | _ => false
def Mr : Option TI → Bool
 | some ⟨_, _, .int _, _⟩ => true
 | some _ => false
 | none => true
def minV : V → V → Option V
 | .int k a, .int k' b => grd (k = k') (some (.int k (if b < a then b else a)))
 | _, _ => none
def maxV : V → V → Option V
 | .int k a, .int k' b => grd (k = k') (some (.int k (if a < b then b else a)))
 | _, _ => none
def L0 (H : LH) (b z n m : Nat) (new : List V) : Option (List V) → Option (V × LH)
 | some old => some (.sl H.length 0 z (n + m) (n + m), (H.set b .dead) ++ [.cells (old ++ new)])
 | none => none
def appO (fl bytes : Nat) (H : LH) (b o z n c m : Nat) (new : List V) : Option (List V) → Option (V × LH)
 | some cs =>
   if n + m ≤ c then grd (fl ≤ b ∧ o + (n + m) * z ≤ cs.length) (some (.sl b o z (n + m) c, H.set b (.cells (Bw cs (o + n * z) new))))
   else grd (fl ≤ b ∧ (n + m) * bytes ≤ Aj) (L0 H b z n m new (cut cs o (n * z)))
 | none => none
def AB (fl z bytes : Nat) (H : LH) (m : Nat) (new : List V) : V → Option (V × LH)
 | .nilsl => if m = 0 then some (.nilsl, H) else grd (m * bytes ≤ Aj) (some (.sl H.length 0 z m m, H ++ [.cells new]))
 | .emp => if m = 0 then some (.emp, H) else grd (m * bytes ≤ Aj) (some (.sl H.length 0 z m m, H ++ [.cells new]))
 | .sl b o z' n c => grd (z' = z) (if m = 0 then some (.sl b o z n c, H) else appO fl bytes H b o z n c m new (H.cellsAt b))
 | _ => none
def appV (T : TypeId → Option TI) (fl : Nat) (t t' : TypeId) (H : LH) (s x : V) : Option (V × LH) :=
 match Av T t, lenV H x, AW H x with
 | some ⟨z, by', _, some zv⟩, some m, some new => grd (LJ z x = true ∧ Mr (T t') = false ∧ 0 < z ∧ z ≤ by' ∧ zv.cells.length = z ∧ zv.isTup = false) (AB fl z by' H m new s)
 | _, _, _ => none
def doBi (T : TypeId → Option TI) (fl : Nat) (H : LH) (b : Builtin) (ts : List TypeId) (vs : List (Option V)) : Option (V × LH) :=
 match b, ts, vs with
 | .len, t :: _, [some x] => grd (lenOk T t x = true) (numO H (lenV H x))
 | .min, _, [some x, some y] => AY H (minV x y)
 | .max, _, [some x, some y] => AY H (maxV x y)
 | .append, t :: t' :: _, [some s, some x] => appV T fl t t' H s x
 | _, _, _ => none
def opds : Op → List Operand
 | .move x => [x]
 | .assign x => [x]
 | .pick c a b => [c, a, b]
 | .box _ x => [x]
 | .build _ ps => ps.toList.map (·.2)
 | .buildSlice _ _ ps => ps.toList.map (·.2)
 | .load _ a => [a]
 | .store _ a x => [a, x]
 | .nilCheck x => [x]
 | .binOp _ _ x y _ => [x, y]
 | .unOp _ _ x => [x]
 | .convert _ _ x => [x]
 | .makeFunc _ _ cs => cs.toList
 | .makeSlice _ l c => [l, c]
 | .slice _ x lo hi _ => x :: (lo.toList ++ hi.toList)
 | .fieldAddr _ x _ => [x]
 | .field _ x _ => [x]
 | .indexAddr _ x i => [x, i]
 | .index _ x i => [x, i]
 | .lookup _ x i _ => [x, i]
 | .mapUpdate _ m k v => [m, k, v]
 | .insert _ m k v => [m, k, v]
 | .extract x _ => [x]
 | .call c => match c.callee with
   | .value f => f :: c.args.toList
   | _ => c.args.toList
 | _ => []
def Is (H : LH) : V → V → V → Option (V × LH)
 | .bool true, a, _ => some (a, H)
 | .bool false, _, b => some (b, H)
 | _, _, _ => none
def fnO (H : LH) (f : FuncId) : Option (List V) → Option (V × LH)
 | some vs => some (.fn f vs, H)
 | none => none
def mapO (H : LH) : Option TI → Option (V × LH)
 | some ⟨_, _, .map _ _, _⟩ => some (.map H.length, H ++ [.map []])
 | _ => none
def Fy (H : LH) : Option TI → Option (V × LH)
 | some ⟨_, _, _, some z⟩ => ptrV H z
 | _ => none
def BX (G : Nat → Option (List V)) (H : LH) (v : V) : Option TI → Option (V × LH)
 | some i => Gi G H i.kind.isAgg i.size v
 | none => none
def DP (fl : Nat) (H : LH) (a v : V) : Option TI → Option (V × LH)
 | some i => HJ fl H i.size v a
 | none => none
def HY (call : FuncId → List V → Nat → LH → Option (V × LH)) (fl : Nat) (H : LH) : V → Option (List V) → Option (V × LH)
 | .fn f caps, some vs => call f (vs ++ caps) fl H
 | _, _ => none
def Bt (call : FuncId → List V → Nat → LH → Option (V × LH)) (T : TypeId → Option TI) (fl : Nat) (H : LH) (c : Call) (vs : List (Option V)) : Option (V × LH) :=
 match c.callee, vs with
 | .builtin b, vs => doBi T fl H b c.argTypes.toList vs
 | .value _, some f :: vs => HY call fl H f (allV vs)
 | _, _ => none
def doOp (call : FuncId → List V → Nat → LH → Option (V × LH)) (T : TypeId → Option TI) (G : Nat → Option (List V)) (fl : Nat) (H : LH) (o : Op) (vs : List (Option V)) : Option (V × LH) :=
 match o, vs with
 | .move _, [some v] => some (v, H)
 | .assign _, [some v] => some (v, H)
 | .pick _ _ _, [some c, some a, some b] => Is H c a b
 | .alloc t, [] => Fy H (T t)
 | .box _ _, [some v] => ptrV H v
 | .build t ps, vs => AY H (G8 T t (ps.toList.map (·.1)) (allV vs))
 | .buildSlice t n ps, vs => D5 T t n (ps.toList.map (·.1)) H (allV vs)
 | .load t _, [some a] => BX G H a (T t)
 | .store t _ _, [some a, some v] => DP fl H a v (T t)
 | .nilCheck _, [some v] => JW H v
 | .binOp op t _ _ _, [some x, some y] => AY H (binV T op t x y)
 | .unOp op _ _, [some x] => AY H (unV op x)
 | .convert s d _, [some v] => DJ T fl H s d v
 | .makeFunc (.func f) ⟨[]⟩ _, vs => fnO H f (allV vs)
 | .makeMap t none, [] => mapO H (T t)
 | .makeSlice t _ _, [some l, some c] => Gk H (Av T t) l c
 | .slice t _ none none none, [some x] => grd (Bh T t x = true) (AY H (BN x none none))
 | .slice t _ (some _) none none, [some x, some l] => grd (Bh T t x = true) (AY H (BN x (some l) none))
 | .slice t _ none (some _) none, [some x, some h] => grd (Bh T t x = true) (AY H (BN x none (some h)))
 | .slice t _ (some _) (some _) none, [some x, some l, some h] => grd (Bh T t x = true) (AY H (BN x (some l) (some h)))
 | .fieldAddr t _ f, [some v] => AY H (Hl T t f v)
 | .field t _ f, [some v] => AY H (Hm T t f v)
 | .indexAddr t _ _, [some v, some n] => AY H (DN T t v n)
 | .index t _ _, [some v, some n] => AY H (Hp T t v n)
 | .lookup t _ _ ok, [some m, some k] => Cc T t ok H m k
 | .mapUpdate t _ _ _, [some m, some k, some v] => updV T t fl H k v m
 | .insert t _ _ _, [some m, some k, some v] => updV T t fl H k v m
 | .extract _ i, [some v] => AY H (Nu i v)
 | .call c, vs => Bt call T fl H c vs
 | _, _ => none
structure Ctx where
 T : TypeId → Option TI
 G : Nat → Option (List V)
 call : FuncId → List V → Nat → LH → Option (V × LH)
 loop : List Tmp → Nat → Code → Env → LH → Option (Ex × Env × LH)
 keep : List Tmp
 fl : Nat
def IY (w : Bool) : Option V → Option Bool
 | some (.bool b) => some (b == w)
 | some (.tup []) => some false
 | _ => none
def KM (ops : List Oper) (j : Nat) : Option Tmp := match ops[j]? with | some o => o.dst | none => none
def CF (X : Ctx) (ops : List Oper) (e : Env) (l : Loc) : Option (Nat × Bool) → Option Bool
 | none => some true
 | some (j, w) => match KM ops j with
   | some d => IY w (B2 X.keep e l d)
   | none => none
def putL : Option Tmp → V → Loc → Loc
 | some t, v, l => (t, v) :: l
 | none, _, l => l
def Ha : Option V → Option V → Bool
 | some (.ptr b _), some (.ptr b' _) => decide (b ≠ b')
 | some (.gptr _ _), some (.ptr _ _) => true
 | _, _ => false
def flt1 (keep : List Tmp) (e : Env) (l : Loc) (adr : Operand) : Option Oper → Bool
 | some ⟨_, .load _ a, _, _, _, _⟩ => Ha (Al keep e l a) (Al keep e l adr)
 | _ => true
def fltE (keep : List Tmp) (ops : List Oper) (e : Env) (l : Loc) (adr : Operand) : List Edge → Bool
 | [] => true
 | ⟨j, .textOnly _⟩ :: es => flt1 keep e l adr ops[j]? && fltE keep ops e l adr es
 | _ :: es => fltE keep ops e l adr es
def J5 : Option V → Option V → Bool
 | some (.ptr b _), some (.sl b' _ _ _ _) => decide (b ≠ b')
 | some (.ptr _ _), some .nilsl => true
 | some (.ptr _ _), some .emp => true
 | some (.gptr _ _), some (.sl _ _ _ _ _) => true
 | some (.gptr _ _), some .nilsl => true
 | some (.gptr _ _), some .emp => true
 | _, _ => false
def flt2 (keep : List Tmp) (e : Env) (l : Loc) (x : Operand) : Option Oper → Bool
 | some ⟨_, .load _ a, _, _, _, _⟩ => J5 (Al keep e l a) (Al keep e l x)
 | _ => true
def fltA (keep : List Tmp) (ops : List Oper) (e : Env) (l : Loc) (x : Operand) : List Edge → Bool
 | [] => true
 | ⟨j, .textOnly _⟩ :: es => flt2 keep e l x ops[j]? && fltA keep ops e l x es
 | _ :: es => fltA keep ops e l x es
def fltC (keep : List Tmp) (ops : List Oper) (e : Env) (l : Loc) : Op → Array Edge → Bool
 | .store _ adr _, ⟨es⟩ => fltE keep ops e l adr es
 | .call ⟨.builtin .append, ⟨x :: _⟩, _⟩, ⟨es⟩ => fltA keep ops e l x es
 | _, _ => true
def grdB {α : Type} (b : Bool) (x : Option α) : Option α := match b with
 | true => x
 | false => none
def GK (X : Ctx) (ops : List Oper) (e : Env) (l : Loc) (H : LH) (o : Oper) : Option (V × LH) :=
 grdB (fltC X.keep ops e l o.op o.after) (doOp X.call X.T X.G X.fl H o.op (Af X.keep e l (opds o.op)))
def reO (σ : List Nat) (x : List (Nat × Nat)) (i : Nat) (o : Oper) : Oper :=
 ⟨o.dst, o.op, o.type, o.pos, ⟨o.after.toList.map (fun e => ⟨σ.idxOf e.on, e.ground⟩) ++ (x.filter (fun p => p.1 == i)).map (fun p => ⟨σ.idxOf p.2, .textOnly .lateStores⟩)⟩, o.guard.map (fun g => (σ.idxOf g.1, g.2))⟩
def reL (σ : List Nat) (x : List (Nat × Nat)) (ops : List Oper) : List Nat → List Oper
 | [] => []
 | i :: is => (match ops[i]? with | some o => reO σ x i o | none => default) :: reL σ x ops is
def S6 (id : Nat) : List (Nat × List Nat × List (Nat × Nat)) → Option (List Nat × List (Nat × Nat))
 | [] => none
 | (j, p) :: l => if id = j then some p else S6 id l
def reR (ops : Array Oper) : Option (List Nat × List (Nat × Nat)) → Array Oper
 | some (σ, x) => ⟨reL σ x ops.toList σ⟩
 | none => ops
def reC (τ : List (Nat × List Nat × List (Nat × Nat))) : Code → Code
 | .region id ops true => .region id (reR ops (S6 id τ)) true
 | .region id ops false => .region id ops false
 | .seq a b => .seq (reC τ a) (reC τ b)
 | .cond c a b => .cond c (reC τ a) (reC τ b)
 | .block id c => .block id (reC τ c)
 | .loop c => .loop (reC τ c)
 | c => c
theorem V8 : ∀ c : Code, reC [] c = c := by
 intro c
 induction c with
 | region id ops d => cases d <;> rfl
 | seq a b iha ihb => simp only [reC, iha, ihb]
 | cond c a b iha ihb => simp only [reC, iha, ihb]
 | block id c ih => simp only [reC, ih]
 | loop c ih => simp only [reC, ih]
 | _ => rfl
def opsV (X : Ctx) (ops : List Oper) (e : Env) : List Oper → Loc → LH → Option (Loc × LH)
 | [], l, H => some (l, H)
 | o :: rest, l, H =>
   match CF X ops e l o.guard with
   | some true => match GK X ops e l H o with
     | some (v, H) => opsV X ops e rest (putL o.dst v l) H
     | none => none
   | some false => opsV X ops e rest (putL o.dst und l) H
   | none => none
def exec (X : Ctx) : Code → Env → LH → Option (Ex × Env × LH)
 | .skip, e, H => some (.nrm, e, H)
 | .label _, e, H => some (.nrm, e, H)
 | .region _ ops _, e, H => match opsV X ops.toList e ops.toList [] H with
   | some (l, H) => some (.nrm, DY X.keep e l, H)
   | none => none
 | .seq a b, e, H => match exec X a e H with
   | some (.nrm, e, H) => exec X b e H
   | r => r
 | .cond c a b, e, H => match Al X.keep e [] c with
   | some (.bool true) => exec X a e H
   | some (.bool false) => exec X b e H
   | _ => none
 | .block id c, e, H => match exec X c e H with
   | some (.exit j, e, H) => if j = id then some (.nrm, e, H) else some (.exit j, e, H)
   | r => r
 | .loop c, e, H => X.loop X.keep X.fl c e H
 | .exit id, e, H => some (.exit id, e, H)
 | .ret, e, H => some (.ret, e, H)
 | _, _, _ => none
def BH : List Tmp → List V → Env
 | [], _ => []
 | t :: ts, args => args[t]? :: BH ts args
def valO : Option (V × LH) → Option V
 | some (v, _) => some v
 | none => none
def resV (X : Ctx) (env : Env) (H : LH) : List ResultVar → List (Option V)
 | [] => []
 | .tmp t :: rs => CC X.keep env t :: resV X env H rs
 | .cell a t :: rs => (match CC X.keep env a with
    | some va => valO (BX X.G H va (X.T t))
    | none => none) :: resV X env H rs
def oneV : List V → V
 | [v] => v
 | [] => .tup []
 | u :: v :: vs => .tup (u :: v :: vs)
def EZ (m : Mode) (H H' : LH) : Option (List V) → Option (V × LH)
 | some vs => match m with
   | .pure => grd ((oneV vs).noAddr = true) (some (oneV vs, H))
   | .fresh => some (oneV vs, H')
   | .any => some (oneV vs, H')
 | none => none
def BK (m : Mode) (fl : Nat) (H : LH) : Nat :=
 match m with
 | .any => fl
 | .pure => H.length
 | .fresh => H.length
def Ac (X : Ctx) (m : Mode) (H : LH) (rs : List ResultVar) : Option (Ex × Env × LH) → Option (V × LH)
 | some (.nrm, e, H') => EZ m H H' (allV (resV X e H' rs))
 | some (.ret, e, H') => EZ m H H' (allV (resV X e H' rs))
 | _ => none
abbrev AM := FuncId → List V → Nat → LH → Option (V × LH)
abbrev AZ := List Tmp → Nat → Code → Env → LH → Option (Ex × Env × LH)
def mk (P : Program) (C : Cfg) (call : AM) (loop : AZ) (keep : List Tmp) (fl : Nat) : Ctx := ⟨ty P, C.glob, call, loop, keep, fl⟩
def idxB (s : ByteArray) (c : UInt8) : Int := match (List.range s.size).find? fun i => s[i]! == c with
 | some i => (i : Int)
 | none => -1
def cntB (s : ByteArray) (c : UInt8) : Int := s.foldl (fun (n : Int) x => if x == c then n + 1 else n) ((0 : Nat) : Int)
def idxA (args : List V) (H : LH) : Option (V × LH) :=
 match args with
 | [.str s, .int .u8 c] => some (.int .i64 (idxB s (UInt8.ofNat c.toNat)), H)
 | _ => none
def cntA (args : List V) (H : LH) : Option (V × LH) :=
 match args with
 | [.str s, .int .u8 c] => some (.int .i64 (cntB s (UInt8.ofNat c.toNat)), H)
 | _ => none
def ext (P : Program) (fn : Func) (args : List V) (H : LH) : Option (V × LH) :=
 if fn.name = "internal/bytealg.IndexByteString" ∧ fn.origin = "" then idxA args H
 else if fn.name = "internal/bytealg.CountString" ∧ fn.origin = "" then cntA args H else none
theorem Mk {P : Program} {fn : Func} {args : List V} {H H' : LH} {v : V} (h : ext P fn args H = some (v, H')) : H' = H ∧ ∃ n, v = .int .i64 n := by
 unfold ext at h
 split at h
 ·unfold idxA at h
  split at h
  ·injection h with h; injection h with h1 h2; exact ⟨h2.symm, _, h1.symm⟩
  ·cases h
 ·split at h
  ·unfold cntA at h
   split at h
   ·injection h with h; injection h with h1 h2; exact ⟨h2.symm, _, h1.symm⟩
   ·cases h
  ·cases h
def LO : List V → Option (List ByteArray)
 | [] => some []
 | .str s :: vs => (LO vs).map (s :: ·)
 | _ :: _ => none
def N4 (H : LH) : V → Option (List ByteArray)
 | .nilsl => some []
 | .emp => some []
 | .sl b o z n c => if z = 1 ∧ n ≤ c then (match H.cellsAt b with | some cs => if o + n ≤ cs.length then LO ((cs.drop o).take n) else none | none => none) else none
 | _ => none
def libA (k : LibK) (args : List V) (H : LH) : Option ByteArray :=
 match k, args with
 | .rep, [.str s, .int .i64 n] => if 0 ≤ n ∧ n ≤ 9223372036854775807 ∧ s.size * n.toNat ≤ 140737488355328 then some ⟨(Lib.repeatL s.data.toList n.toNat).toArray⟩ else none
 | .join, [v, .str sep] => match N4 H v with
   | some xs => if xs.length ≤ 140737488355328 ∧ (Lib.join (xs.map (·.data.toList)) sep.data.toList).length ≤ 140737488355328 then some ⟨(Lib.join (xs.map (·.data.toList)) sep.data.toList).toArray⟩ else none
   | none => none
 | .repl, [.str s, .str old, .str new] => if s.size < 4294967281 ∧ 1 ≤ old.size ∧ s.size + Lib.countB s old * new.size ≤ 140737488355328 then some ⟨(Lib.replaceAll s.data.toList old.data.toList new.data.toList).toArray⟩ else none
 | _, _ => none
def F0 (C : Cfg) (K : FuncId) (args : List V) (H : LH) : Option (V × LH) :=
 match C.lib K with
 | some k => (match libA k args H with | some s => some (.str s, H) | none => none)
 | none => none
theorem De {C : Cfg} {K : FuncId} {args : List V} {H H' : LH} {v : V} (h : F0 C K args H = some (v, H')) : H' = H ∧ ∃ k s, C.lib K = some k ∧ libA k args H = some s ∧ v = .str s := by
 unfold F0 at h
 cases hk : C.lib K with
 | none => rw [hk] at h; cases h
 | some k =>
   rw [hk] at h
   cases hs : libA k args H with
   | none => simp only [hs] at h; cases h
   | some s =>
     simp only [hs] at h
     injection h with h; injection h with h1 h2
     exact ⟨h2.symm, k, s, rfl, hs, h1.symm⟩
def BV (P : Program) (C : Cfg) (call : AM) (loop : AZ) (K : FuncId) (args : List V) (fl : Nat) (H : LH) (rs : List ResultVar) (c : Code) : Option (V × LH) :=
 Ac (mk P C call loop (C.keep K) (BK (C.mode K) fl H)) (C.mode K) H rs
  (exec (mk P C call loop (C.keep K) (BK (C.mode K) fl H)) c (BH (C.keep K) args) H)
def Ar (P : Program) (C : Cfg) (ok : FuncId → Bool) (call : AM) (loop : AZ) (K : FuncId) (args : List V) (fl : Nat) (H : LH) : Option (V × LH) :=
 match P.funcs[K]? with
 | some fn => match fn.body with
   | some c => if ok K = true then BV P C call loop K args fl H fn.results.toList (reC (C.ord K) c) else F0 C K args H
   | none => ext P fn args H
 | none => none
def AL (P : Program) (C : Cfg) (call : AM) (loop : AZ) (keep : List Tmp) (fl : Nat) (c : Code) (e : Env) (H : LH) : Option (Ex × Env × LH) :=
 match exec (mk P C call loop keep fl) c e H with
 | some (.nrm, e, H) => loop keep fl c e H
 | r => r
section
variable (P : Program) (C : Cfg) (ok : FuncId → Bool)
def runN : Nat → AM × AZ
 | 0 => (fun _ _ _ _ => none, fun _ _ _ _ _ => none)
 | n + 1 => (Ar P C ok (runN n).1 (runN n).2, AL P C (runN n).1 (runN n).2)
def leC (f g : AM) : Prop := ∀ K a fl H r, f K a fl H = some r → g K a fl H = some r
def leL (f g : AZ) : Prop := ∀ k fl c e H r, f k fl c e H = some r → g k fl c e H = some r
variable {P C ok}
theorem Jh {f g : AM} (h : leC f g) {T G fl H o vs r} (e : doOp f T G fl H o vs = some r) : doOp g T G fl H o vs = some r := by
 unfold doOp at e ⊢
 split at e <;> try exact e
 unfold Bt at e ⊢
 split at e <;> try exact e
 unfold HY at e ⊢
 split at e
 ·exact h _ _ _ _ _ e
 ·exact e
theorem Jv {α : Type} {b : Bool} {x : Option α} {r : α} (h : grdB b x = some r) : b = true ∧ x = some r := by
 cases b
 ·cases h
 ·exact ⟨rfl, h⟩
theorem PO {α : Type} {x : Option α} : grdB true x = x := rfl
theorem Bb {X : Ctx} {ops : List Oper} {e : Env} {l : Loc} {H : LH} {o : Oper} {r : V × LH} (h : GK X ops e l H o = some r) :
 doOp X.call X.T X.G X.fl H o.op (Af X.keep e l (opds o.op)) = some r ∧ fltC X.keep ops e l o.op o.after = true := by
 unfold GK at h
 exact ⟨(Jv h).2, (Jv h).1⟩
theorem N2 {X : Ctx} {ops : List Oper} {e : Env} {l : Loc} {H : LH} {o : Oper} {r : V × LH} (h : doOp X.call X.T X.G X.fl H o.op (Af X.keep e l (opds o.op)) = some r)
 (k : fltC X.keep ops e l o.op o.after = true) : GK X ops e l H o = some r := by
 unfold GK
 rw [k]; exact h
theorem JO {f g : AM} {l m : AZ} (h : leC f g) {keep fl ops env} : ∀ {rest loc H r}, opsV (mk P C f l keep fl) ops env rest loc H = some r → opsV (mk P C g m keep fl) ops env rest loc H = some r := by
 intro rest
 induction rest with
 | nil => intro loc H r e; exact e
 | cons o rest ih =>
   intro loc H r e
   simp only [opsV] at e ⊢
   have hw : CF (mk P C g m keep fl) ops env loc o.guard = CF (mk P C f l keep fl) ops env loc o.guard := by
    cases o.guard <;> rfl
   rw [hw]
   split at e
   ·split at e
    ·rename_i hs
     obtain ⟨h1, h2⟩ := Bb hs
     have := N2 (X := mk P C g m keep fl) (ops := ops) (Jh h h1) h2
     rw [this]
     exact ih e
    ·cases e
   ·exact ih e
   ·cases e
theorem Dc {f g : AM} {l m : AZ} (h : leC f g) (h' : leL l m) {keep fl} : ∀ {c e H r}, exec (mk P C f l keep fl) c e H = some r → exec (mk P C g m keep fl) c e H = some r := by
 intro c
 induction c with
 | region id ops d =>
   intro e H r he
   simp only [exec] at he ⊢
   split at he
   ·rename_i hs; rw [JO h hs]; exact he
   ·cases he
 | seq a b iha ihb =>
   intro e H r he
   simp only [exec] at he ⊢
   cases ha : exec (mk P C f l keep fl) a e H with
   | none => rw [ha] at he; cases he
   | some x =>
     rw [ha] at he
     rw [iha ha]
     obtain ⟨x, e1, H1⟩ := x
     cases x <;> first | exact ihb he | exact he
 | cond o a b iha ihb =>
   intro e H r he
   simp only [exec] at he ⊢
   have : Al (mk P C g m keep fl).keep e [] o = Al (mk P C f l keep fl).keep e [] o := rfl
   rw [this]
   split at he
   ·exact iha he
   ·exact ihb he
   ·cases he
 | block id c ih =>
   intro e H r he
   simp only [exec] at he ⊢
   cases ha : exec (mk P C f l keep fl) c e H with
   | none => rw [ha] at he; cases he
   | some x => rw [ha] at he; rw [ih ha]; exact he
 | loop c ih => intro e H r he; exact h' _ _ _ _ _ _ he
 | skip => intro e H r he; exact he
 | label => intro e H r he; exact he
 | exit => intro e H r he; exact he
 | ret => intro e H r he; exact he
 | _ => intro e H r he; cases he
theorem Hs {f g : AM} {l m : AZ} {keep fl md H rs x} : Ac (mk P C f l keep fl) md H rs x = Ac (mk P C g m keep fl) md H rs x := by
 have hr : ∀ env H, resV (mk P C f l keep fl) env H rs = resV (mk P C g m keep fl) env H rs := by
  intro env H
  induction rs with
  | nil => rfl
  | cons r rs ih => cases r <;> simp only [resV, ih] <;> rfl
 unfold Ac
 split <;> first | rfl | simp only [hr]
theorem Eh {f g : AM} {l m : AZ} (h : leC f g) (h' : leL l m) : leC (Ar P C ok f l) (Ar P C ok g m) := by
 intro K a fl H r e
 unfold Ar at e ⊢
 split at e
 ·split at e
  ·split at e
   ·rename_i hok
    rw [if_pos hok]
    unfold BV at e ⊢
    cases hx : exec (mk P C f l (C.keep K) (BK (C.mode K) fl H)) (reC (C.ord K) ‹Code›) (BH (C.keep K) a) H with
    | none => rw [hx] at e; cases e
    | some x => rw [hx] at e; rw [Dc h h' hx]; rw [← e]; exact Hs
   ·rename_i hok
    rw [if_neg hok]; exact e
  ·exact e
 ·cases e
theorem Et {f g : AM} {l m : AZ} (h : leC f g) (h' : leL l m) : leL (AL P C f l) (AL P C g m) := by
 intro k fl c e H r he
 unfold AL at he ⊢
 cases hx : exec (mk P C f l k fl) c e H with
 | none => rw [hx] at he; cases he
 | some x =>
   rw [hx] at he
   rw [Dc h h' hx]
   obtain ⟨x, e1, H1⟩ := x
   cases x <;> first | exact h' _ _ _ _ _ _ he | exact he
theorem JZ (n : Nat) : leC (runN P C ok n).1 (runN P C ok (n + 1)).1 ∧ leL (runN P C ok n).2 (runN P C ok (n + 1)).2 := by
 induction n with
 | zero => exact ⟨fun _ _ _ _ _ h => (by cases h), fun _ _ _ _ _ _ h => (by cases h)⟩
 | succ n ih => exact ⟨Eh ih.1 ih.2, Et ih.1 ih.2⟩
theorem Bx {n m : Nat} (h : n ≤ m) : leC (runN P C ok n).1 (runN P C ok m).1 ∧ leL (runN P C ok n).2 (runN P C ok m).2 := by
 induction h with
 | refl => exact ⟨fun _ _ _ _ _ h => h, fun _ _ _ _ _ _ h => h⟩
 | step _ ih => exact ⟨fun _ _ _ _ _ h => (JZ _).1 _ _ _ _ _ (ih.1 _ _ _ _ _ h), fun _ _ _ _ _ _ h => (JZ _).2 _ _ _ _ _ _ (ih.2 _ _ _ _ _ _ h)⟩
variable (P C ok)
open Classical in
noncomputable def Run : AM := fun K a fl H => if h : ∃ r, ∃ n, (runN P C ok n).1 K a fl H = some r then some h.choose else none
open Classical in
noncomputable def Loop : AZ := fun k fl c e H => if h : ∃ r, ∃ n, (runN P C ok n).2 k fl c e H = some r then some h.choose else none
variable {P C ok}
theorem J2 {K a fl H r} : Run P C ok K a fl H = some r ↔ ∃ n, (runN P C ok n).1 K a fl H = some r := by
 unfold Run
 split
 ·rename_i h
  obtain ⟨n, hn⟩ := h.choose_spec
  constructor
  ·intro e; injection e with e; exact ⟨n, by rw [← e]; exact hn⟩
  ·rintro ⟨m, hm⟩
   have h1 := (Bx (Nat.le_max_left n m)).1 _ _ _ _ _ hn
   have h2 := (Bx (Nat.le_max_right n m)).1 _ _ _ _ _ hm
   rw [h1] at h2; exact h2
 ·rename_i h
  exact ⟨fun e => (by cases e), fun ⟨n, hn⟩ => (h ⟨r, n, hn⟩).elim⟩
theorem FY {k fl c e H r} : Loop P C ok k fl c e H = some r ↔ ∃ n, (runN P C ok n).2 k fl c e H = some r := by
 unfold Loop
 split
 ·rename_i h
  obtain ⟨n, hn⟩ := h.choose_spec
  constructor
  ·intro e; injection e with e; exact ⟨n, by rw [← e]; exact hn⟩
  ·rintro ⟨m, hm⟩
   have h1 := (Bx (Nat.le_max_left n m)).2 _ _ _ _ _ _ hn
   have h2 := (Bx (Nat.le_max_right n m)).2 _ _ _ _ _ _ hm
   rw [h1] at h2; exact h2
 ·rename_i h
  exact ⟨fun e => (by cases e), fun ⟨n, hn⟩ => (h ⟨r, n, hn⟩).elim⟩
theorem MS (n : Nat) : leC (runN P C ok n).1 (Run P C ok) ∧ leL (runN P C ok n).2 (Loop P C ok) :=
 ⟨fun _ _ _ _ _ h => J2.2 ⟨n, h⟩, fun _ _ _ _ _ _ h => FY.2 ⟨n, h⟩⟩
abbrev mkN (P : Program) (C : Cfg) (ok : FuncId → Bool) (n : Nat) := mk P C (runN P C ok n).1 (runN P C ok n).2
noncomputable abbrev mkR (P : Program) (C : Cfg) (ok : FuncId → Bool) := mk P C (Run P C ok) (Loop P C ok)
theorem Nn {fl H f vs r} (e : HY (Run P C ok) fl H f vs = some r) : ∃ n, HY (runN P C ok n).1 fl H f vs = some r := by
 cases f with
 | fn k caps =>
   cases vs with
   | none => cases e
   | some vs => exact J2.1 e
 | _ => cases e
theorem KJ {T fl H c vs r} (e : Bt (Run P C ok) T fl H c vs = some r) : ∃ n, Bt (runN P C ok n).1 T fl H c vs = some r := by
 unfold Bt at e
 split at e
 ·exact ⟨0, by simp only [Bt, *]⟩
 ·obtain ⟨n, hn⟩ := Nn e
  exact ⟨n, by simp only [Bt, *]⟩
 ·cases e
theorem Pf {T G fl H o vs r} (e : doOp (Run P C ok) T G fl H o vs = some r) : ∃ n, doOp (runN P C ok n).1 T G fl H o vs = some r := by
 unfold doOp at e
 split at e
 all_goals first | exact ⟨0, e⟩ | exact KJ e | cases e
theorem Qq {keep fl ops env} : ∀ {rest loc H r}, opsV (mkR P C ok keep fl) ops env rest loc H = some r → ∃ n, opsV (mkN P C ok n keep fl) ops env rest loc H = some r := by
 intro rest
 induction rest with
 | nil => intro loc H r e; exact ⟨0, e⟩
 | cons o rest ih =>
   intro loc H r e
   simp only [opsV] at e
   have hw : ∀ n, CF (mkN P C ok n keep fl) ops env loc o.guard = CF (mkR P C ok keep fl) ops env loc o.guard := by
    intro n; cases o.guard <;> rfl
   split at e
   ·rename_i hwant
    split at e
    ·rename_i v H1 hs
     obtain ⟨hs1, hs2⟩ := Bb hs
     obtain ⟨n, hn⟩ := Pf hs1
     obtain ⟨m, hm⟩ := ih e
     refine ⟨max n m, ?_⟩
     simp only [opsV, hw, hwant]
     have h1 : GK (mkN P C ok (max n m) keep fl) ops env loc H o = some (v, H1) := N2 (Jh (Bx (Nat.le_max_left n m)).1 hn) hs2
     rw [h1]
     exact JO (Bx (Nat.le_max_right n m)).1 hm
    ·cases e
   ·rename_i hwant
    obtain ⟨m, hm⟩ := ih e
    exact ⟨m, by simp only [opsV, hw, hwant]; exact hm⟩
   ·cases e
theorem Jm {keep fl} : ∀ {c e H r}, exec (mkR P C ok keep fl) c e H = some r → ∃ n, exec (mkN P C ok n keep fl) c e H = some r := by
 intro c
 induction c with
 | region id ops d =>
   intro e H r he
   simp only [exec] at he
   split at he
   ·rename_i hs
    obtain ⟨n, hn⟩ := Qq hs
    exact ⟨n, by simp only [exec, hn]; exact he⟩
   ·cases he
 | seq a b iha ihb =>
   intro e H r he
   simp only [exec] at he
   cases ha : exec (mkR P C ok keep fl) a e H with
   | none => rw [ha] at he; cases he
   | some x =>
     obtain ⟨n, hn⟩ := iha ha
     rw [ha] at he
     obtain ⟨x, e1, H1⟩ := x
     cases x
     case nrm =>
      obtain ⟨m, hm⟩ := ihb he
      refine ⟨max n m, ?_⟩
      simp only [exec]
      rw [Dc (Bx (Nat.le_max_left n m)).1 (Bx (Nat.le_max_left n m)).2 hn]
      exact Dc (Bx (Nat.le_max_right n m)).1 (Bx (Nat.le_max_right n m)).2 hm
     all_goals exact ⟨n, by simp only [exec, hn]; exact he⟩
 | cond o a b iha ihb =>
   intro e H r he
   simp only [exec] at he
   split at he
   ·rename_i hc; obtain ⟨n, hn⟩ := iha he; exact ⟨n, by simp only [exec]; rw [show Al (mkN P C ok n keep fl).keep e [] o = _ from hc]; exact hn⟩
   ·rename_i hc; obtain ⟨n, hn⟩ := ihb he; exact ⟨n, by simp only [exec]; rw [show Al (mkN P C ok n keep fl).keep e [] o = _ from hc]; exact hn⟩
   ·cases he
 | block id c ih =>
   intro e H r he
   simp only [exec] at he
   cases ha : exec (mkR P C ok keep fl) c e H with
   | none => rw [ha] at he; cases he
   | some x => obtain ⟨n, hn⟩ := ih ha; rw [ha] at he; exact ⟨n, by simp only [exec, hn]; exact he⟩
 | loop c ih => intro e H r he; exact FY.1 he
 | skip => intro e H r he; exact ⟨0, he⟩
 | label => intro e H r he; exact ⟨0, he⟩
 | exit => intro e H r he; exact ⟨0, he⟩
 | ret => intro e H r he; exact ⟨0, he⟩
 | _ => intro e H r he; cases he
theorem Oy (K a fl H) : Run P C ok K a fl H = Ar P C ok (Run P C ok) (Loop P C ok) K a fl H := by
 cases h : Ar P C ok (Run P C ok) (Loop P C ok) K a fl H with
 | some r =>
   have h0 := h
   unfold Ar at h
   refine J2.2 ?_
   split at h
   ·rename_i fn hfn
    split at h
    ·rename_i c hc
     split at h
     ·rename_i hok
      unfold BV at h
      cases hx : exec (mkR P C ok (C.keep K) (BK (C.mode K) fl H)) (reC (C.ord K) c) (BH (C.keep K) a) H with
      | none => rw [hx] at h; cases h
      | some x =>
        obtain ⟨n, hn⟩ := Jm hx
        refine ⟨n + 1, ?_⟩
        show Ar P C ok (runN P C ok n).1 (runN P C ok n).2 K a fl H = some r
        simp only [Ar, hfn, hc, hok, if_true, BV]
        rw [hx] at h
        rw [hn, ← h]
        exact Hs
     ·rename_i hok
      exact ⟨1, by show Ar P C ok _ _ K a fl H = some r; simp only [Ar, hfn, hc]; rw [if_neg hok]; exact h⟩
    ·rename_i hc
     exact ⟨1, by show Ar P C ok _ _ K a fl H = some r; simp only [Ar, hfn, hc]; exact h⟩
   ·cases h
 | none =>
   cases hr : Run P C ok K a fl H with
   | none => rfl
   | some r =>
     obtain ⟨n, hn⟩ := J2.1 hr
     cases n with
     | zero => cases hn
     | succ n => rw [Eh (MS n).1 (MS n).2 _ _ _ _ _ hn] at h; cases h
theorem TN (k fl c e H) : Loop P C ok k fl c e H = AL P C (Run P C ok) (Loop P C ok) k fl c e H := by
 cases h : AL P C (Run P C ok) (Loop P C ok) k fl c e H with
 | some r =>
   refine FY.2 ?_
   unfold AL at h
   cases hx : exec (mkR P C ok k fl) c e H with
   | none => rw [hx] at h; cases h
   | some x =>
     obtain ⟨n, hn⟩ := Jm hx
     rw [hx] at h
     obtain ⟨x, e1, H1⟩ := x
     cases x
     case nrm =>
      obtain ⟨m, hm⟩ := FY.1 h
      refine ⟨max n m + 1, ?_⟩
      show AL P C _ _ k fl c e H = some r
      unfold AL
      rw [Dc (Bx (Nat.le_max_left n m)).1 (Bx (Nat.le_max_left n m)).2 hn]
      exact (Bx (Nat.le_max_right n m)).2 _ _ _ _ _ _ hm
     all_goals exact ⟨n + 1, by show AL P C _ _ k fl c e H = some r; unfold AL; rw [hn]; exact h⟩
 | none =>
   cases hr : Loop P C ok k fl c e H with
   | none => rfl
   | some r =>
     obtain ⟨n, hn⟩ := FY.1 hr
     cases n with
     | zero => cases hn
     | succ n => rw [Et (MS n).1 (MS n).2 _ _ _ _ _ _ hn] at h; cases h
end
inductive K where
 | code (c : Code)
 | blk (id : Nat)
 | lp (c : Code)
def ev (X : Ctx) : List K → Ex → Env → LH → Option (Ex × Env × LH)
 | [], x, e, H => some (x, e, H)
 | .code c :: k, .nrm, e, H => match exec X c e H with
   | some (x, e, H) => ev X k x e H
   | none => none
 | .code _ :: k, .ret, e, H => ev X k .ret e H
 | .code _ :: k, .exit j, e, H => ev X k (.exit j) e H
 | .blk _ :: k, .nrm, e, H => ev X k .nrm e H
 | .blk _ :: k, .ret, e, H => ev X k .ret e H
 | .blk id :: k, .exit j, e, H => if j = id then ev X k .nrm e H else ev X k (.exit j) e H
 | .lp c :: k, .nrm, e, H => match X.loop X.keep X.fl c e H with
   | some (x, e, H) => ev X k x e H
   | none => none
 | .lp _ :: k, .ret, e, H => ev X k .ret e H
 | .lp _ :: k, .exit j, e, H => ev X k (.exit j) e H
def evR (X : Ctx) (ops rest : List Oper) (l : Loc) (e : Env) (H : LH) (k : List K) : Option (Ex × Env × LH) :=
 match opsV X ops e rest l H with
 | some (l, H) => ev X k .nrm (DY X.keep e l) H
 | none => none
def evS (X : Ctx) (ops : List Oper) (d : Option Tmp) (rest : List Oper) (l : Loc) (e : Env) (k : List K) : Option (V × LH) → Option (Ex × Env × LH)
 | some (v, H) => evR X ops rest (putL d v l) e H k
 | none => none
def evG (X : Ctx) (ops : List Oper) (o : Oper) (rest : List Oper) (l : Loc) (e : Env) (H : LH) (k : List K) : Option Bool → Option (Ex × Env × LH)
 | some true => evS X ops o.dst rest l e k (GK X ops e l H o)
 | some false => evR X ops rest (putL o.dst und l) e H k
 | none => none
def evB (X : Ctx) (a b : Code) (k : List K) (e : Env) (H : LH) : Option V → Option (Ex × Env × LH)
 | some (.bool true) => ev X (.code a :: k) .nrm e H
 | some (.bool false) => ev X (.code b :: k) .nrm e H
 | _ => none
section
variable {X : Ctx} {k : List K} {e : Env} {H : LH}
theorem VW {a b : Code} : ev X (.code (.seq a b) :: k) .nrm e H = ev X (.code a :: .code b :: k) .nrm e H := by
 simp only [ev, exec]
 cases exec X a e H with
 | none => rfl
 | some x => obtain ⟨x, e1, H1⟩ := x; cases x <;> rfl
theorem Pp {id : Nat} {ops : Array Oper} {d : Bool} : ev X (.code (.region id ops d) :: k) .nrm e H = evR X ops.toList ops.toList [] e H k := by
 simp only [ev, exec, evR]
 cases opsV X ops.toList e ops.toList [] H <;> rfl
theorem Us {c : Operand} {a b : Code} : ev X (.code (.cond c a b) :: k) .nrm e H = evB X a b k e H (Al X.keep e [] c) := by
 simp only [ev, exec]
 cases Al X.keep e [] c with
 | none => rfl
 | some v =>
   cases v with
   | bool t => cases t <;> rfl
   | _ => rfl
theorem S2 {id : Nat} {c : Code} : ev X (.code (.block id c) :: k) .nrm e H = ev X (.code c :: .blk id :: k) .nrm e H := by
 simp only [ev, exec]
 cases exec X c e H with
 | none => rfl
 | some x =>
   obtain ⟨x, e1, H1⟩ := x
   cases x with
   | exit j => simp only [ev]; by_cases h : j = id <;> simp [h]
   | _ => rfl
theorem Ur {id j : Nat} : ev X (.blk id :: k) (.exit j) e H = if j = id then ev X k .nrm e H else ev X k (.exit j) e H := rfl
theorem S1 {ops : List Oper} {o : Oper} {rest : List Oper} {l : Loc} : evR X ops (o :: rest) l e H k = evG X ops o rest l e H k (CF X ops e l o.guard) := by
 simp only [evR, opsV]
 cases CF X ops e l o.guard with
 | none => rfl
 | some b =>
   cases b with
   | false => rfl
   | true =>
     simp only [evG]
     cases GK X ops e l H o with
     | none => rfl
     | some v => rfl
end
theorem Ut {P : Program} {C : Cfg} {ok : FuncId → Bool} {keep : List Tmp} {fl : Nat} {k : List K} {e : Env} {H : LH} {c : Code} :
 ev (mkR P C ok keep fl) (.code (.loop c) :: k) .nrm e H = ev (mkR P C ok keep fl) (.code c :: .lp c :: k) .nrm e H := by
 simp only [ev, exec]
 show (match Loop P C ok keep fl c e H with | some (x, e, H) => ev (mkR P C ok keep fl) k x e H | none => none) = _
 rw [TN]
 unfold AL
 cases exec (mkR P C ok keep fl) c e H with
 | none => rfl
 | some x =>
   obtain ⟨x, e1, H1⟩ := x
   cases x <;> rfl
theorem Ox {P : Program} {C : Cfg} {ok : FuncId → Bool} {f : FuncId} {fn : Func} {c : Code} {kp : List Tmp} {m : Mode} {τ : List (Nat × List Nat × List (Nat × Nat))} (hf : P.funcs[f]? = some fn) (hb : fn.body = some c) (ho : ok f = true)
 (hk : C.keep f = kp) (hm : C.mode f = m) (hr : C.ord f = τ) (args : List V) (fl : Nat) (H : LH) :
 Run P C ok f args fl H = Ac (mkR P C ok kp (BK m fl H)) m H fn.results.toList (ev (mkR P C ok kp (BK m fl H)) [.code (reC τ c)] .nrm (BH kp args) H) := by
 rw [Oy]
 simp only [Ar, hf, hb, ho, if_true, BV, hk, hm, hr]
 congr 1
 simp only [ev]
 cases exec (mk P C (Run P C ok) (Loop P C ok) kp (BK m fl H)) (reC τ c) (BH kp args) H <;> rfl
theorem Rt {P : Program} {C : Cfg} {ok : FuncId → Bool} {f : FuncId} {fn : Func} {c : Code} {kp : List Tmp} {m : Mode} (hf : P.funcs[f]? = some fn) (hb : fn.body = some c) (ho : ok f = true)
 (hk : C.keep f = kp) (hm : C.mode f = m) (hr : C.ord f = []) (args : List V) (fl : Nat) (H : LH) :
 Run P C ok f args fl H = Ac (mkR P C ok kp (BK m fl H)) m H fn.results.toList (ev (mkR P C ok kp (BK m fl H)) [.code c] .nrm (BH kp args) H) := by
 rw [Ox hf hb ho hk hm hr, V8]
theorem PJ (H L : LH) (i : Nat) : (H ++ L)[H.length + i]? = L[i]? := by
 rw [List.getElem?_append_right (by omega)]
 congr 1
 omega
theorem Bd (H L : LH) (i : Nat) : LH.cellsAt (H ++ L) (H.length + i) = LH.cellsAt L i := by
 unfold LH.cellsAt; rw [PJ]
theorem A7 (H L : LH) : LH.cellsAt (H ++ L) H.length = LH.cellsAt L 0 := Bd H L 0
theorem JF (H L : LH) (i : Nat) : LH.mapAt (H ++ L) (H.length + i) = LH.mapAt L i := by
 unfold LH.mapAt; rw [PJ]
theorem F2 (H L : LH) : LH.mapAt (H ++ L) H.length = LH.mapAt L 0 := JF H L 0
theorem Jd (cs : List V) (L : LH) : LH.cellsAt (.cells cs :: L) 0 = some cs := rfl
theorem Jc (b : Blk) (L : LH) (i : Nat) : LH.cellsAt (b :: L) (i + 1) = LH.cellsAt L i := rfl
theorem QX (H L : LH) (i : Nat) (b : Blk) : (H ++ L).set (H.length + i) b = H ++ L.set i b := by
 simp
theorem SQ (H L : LH) (b : Blk) : (H ++ L).set H.length b = H ++ L.set 0 b := by
 simp
structure Grow (fl : Nat) (H H' : LH) : Prop where
 len : H.length ≤ H'.length
 low : ∀ b : Nat, b < fl → b < H.length → H'[b]? = H[b]?
 dead : ∀ b : Nat, H[b]? = some .dead → H'[b]? = some .dead
theorem Grow.refl (fl : Nat) (H : LH) : Grow fl H H := ⟨Nat.le_refl _, fun _ _ _ => rfl, fun _ h => h⟩
theorem Grow.trans {fl : Nat} {A B D : LH} (h : Grow fl A B) (k : Grow fl B D) : Grow fl A D :=
 ⟨Nat.le_trans h.len k.len, fun b hb hl => (k.low b hb (Nat.lt_of_lt_of_le hl h.len)).trans (h.low b hb hl), fun b hb => k.dead b (h.dead b hb)⟩
theorem Grow.mono {fl fl' : Nat} {A B : LH} (h : Grow fl' A B) (hf : fl ≤ fl') : Grow fl A B := ⟨h.len, fun b hb => h.low b (by omega), h.dead⟩
theorem Grow.push (fl : Nat) (H : LH) (x : Blk) : Grow fl H (H ++ [x]) :=
 ⟨by simp, fun b _ hl => by rw [List.getElem?_append_left hl], fun b hb => by
   have hl : b < H.length := (List.getElem?_eq_some_iff.1 hb).1
   rw [List.getElem?_append_left hl]; exact hb⟩
theorem Grow.set {fl b : Nat} {H : LH} {x : Blk} (hb : fl ≤ b) (hd : x = .dead ∨ H[b]? ≠ some .dead) : Grow fl H (H.set b x) :=
 ⟨by simp, fun i hi _ => by rw [List.getElem?_set_ne (by omega)], fun i hi => by
   by_cases e : b = i
   ·subst e
    rcases hd with rfl | hd
    ·rw [List.getElem?_set_self (List.getElem?_eq_some_iff.1 hi).1]
    ·exact absurd hi hd
   ·rw [List.getElem?_set_ne e]; exact hi⟩
theorem AI {H : LH} {b : Nat} {cs : List V} (h : H.cellsAt b = some cs) : H[b]? = some (.cells cs) := by
 unfold LH.cellsAt at h
 split at h
 ·rename_i hb; injection h with h; rw [hb, h]
 ·cases h
theorem CJ {H : LH} {b : Nat} {es : List (V × V)} (h : H.mapAt b = some es) : H[b]? = some (.map es) := by
 unfold LH.mapAt at h
 split at h
 ·rename_i hb; injection h with h; rw [hb, h]
 ·cases h
theorem ES {H : LH} {b : Nat} {cs : List V} (h : H.cellsAt b = some cs) : H[b]? ≠ some .dead := by rw [AI h]; simp
theorem MC {H : LH} {b : Nat} {es : List (V × V)} (h : H.mapAt b = some es) : H[b]? ≠ some .dead := by rw [CJ h]; simp
theorem A6 {α : Type} {c : Prop} [Decidable c] {x : Option α} {r : α} (h : grd c x = some r) : c ∧ x = some r := by
 unfold grd at h
 split at h
 ·exact ⟨‹c›, h⟩
 ·cases h
def Cn (call : AM) : Prop := ∀ K args fl H v H', call K args fl H = some (v, H') → fl ≤ H.length → Grow fl H H'
def FX (loop : AZ) : Prop := ∀ kp fl c e H x e' H', loop kp fl c e H = some (x, e', H') → fl ≤ H.length → Grow fl H H'
theorem Gs {fl H v v' H'} (h : ptrV H v = some (v', H')) : Grow fl H H' := by
 obtain ⟨_, h⟩ := A6 h
 injection h with h; injection h with _ h; subst h; exact .push _ _ _
theorem QD {fl H sz n cs v' H'} (h : rowO H sz n cs = some (v', H')) : Grow fl H H' := by
 unfold rowO at h
 split at h
 ·injection h with h; injection h with _ h; subst h; exact .push _ _ _
 ·cases h
theorem AE {fl H x v' H'} (h : AY H x = some (v', H')) : Grow fl H H' := by
 unfold AY at h
 split at h
 ·injection h with h; injection h with _ h; subst h; exact .refl _ _
 ·cases h
theorem Fe {H x v' H'} (h : AY H x = some (v', H')) : x = some v' ∧ H' = H := by
 unfold AY at h
 split at h
 ·injection h with h; injection h with h1 h; subst h1; exact ⟨rfl, h.symm⟩
 ·cases h
theorem NS {G H g n a v' H'} (h : Gi G H g n a = some (v', H')) : H' = H := by
 have key : ∀ {o cs}, BF H g o n cs = some (v', H') → H' = H := by
  intro o cs h
  unfold BF at h
  split at h
  ·split at h
   ·obtain ⟨_, h⟩ := A6 h; injection h with h; injection h with _ h; exact h.symm
   ·split at h
    ·injection h with h; injection h with _ h; exact h.symm
    ·cases h
  ·cases h
 unfold Gi at h
 split at h
 ·exact key h
 ·exact key h
 ·cases h
theorem CI {G H a i v' H'} (h : BX G H a i = some (v', H')) : H' = H := by
 unfold BX at h
 split at h
 ·exact NS h
 ·cases h
theorem LN {fl H a v i v' H'} (h : DP fl H a v i = some (v', H')) : Grow fl H H' := by
 unfold DP at h
 split at h
 ·unfold HJ at h
  split at h
  ·unfold GM at h
   split at h
   ·rename_i hc
    obtain ⟨hg, h⟩ := A6 h
    injection h with h; injection h with _ h; subst h
    exact .set hg.2.2.1 (.inr (ES hc))
   ·cases h
  ·cases h
 ·cases h
theorem OD {T fl t t' H s x v' H'} (h : appV T fl t t' H s x = some (v', H')) : Grow fl H H' := by
 unfold appV at h
 split at h
 ·obtain ⟨_, h⟩ := A6 h
  unfold AB at h
  split at h
  ·split at h
   ·injection h with h; injection h with _ h; subst h; exact .refl _ _
   ·obtain ⟨_, h⟩ := A6 h; injection h with h; injection h with _ h; subst h; exact .push _ _ _
  ·split at h
   ·injection h with h; injection h with _ h; subst h; exact .refl _ _
   ·obtain ⟨_, h⟩ := A6 h; injection h with h; injection h with _ h; subst h; exact .push _ _ _
  ·obtain ⟨_, h⟩ := A6 h
   split at h
   ·injection h with h; injection h with _ h; subst h; exact .refl _ _
   ·unfold appO at h
    split at h
    ·rename_i hc
     split at h
     ·obtain ⟨hg, h⟩ := A6 h; injection h with h; injection h with _ h; subst h
      exact .set hg.1 (.inr (ES hc))
     ·obtain ⟨hg, h⟩ := A6 h
      unfold L0 at h
      split at h
      ·injection h with h; injection h with _ h; subst h
       exact (Grow.set hg.1 (.inl rfl)).trans (.push _ _ _)
      ·cases h
    ·cases h
  ·cases h
 ·cases h
theorem Pe {T fl H b ts vs v' H'} (h : doBi T fl H b ts vs = some (v', H')) : Grow fl H H' := by
 unfold doBi at h
 split at h
 ·obtain ⟨_, h⟩ := A6 h
  unfold numO at h
  split at h
  ·injection h with h; injection h with _ h; subst h; exact .refl _ _
  ·cases h
 ·exact AE h
 ·exact AE h
 ·exact OD h
 ·cases h
theorem Hg {fl fl2 T H s d v v' H'} (h : DJ T fl2 H s d v = some (v', H')) : Grow fl H H' := by
 unfold DJ at h
 split at h
 ·split at h
  ·injection h with h; injection h with _ h; subst h; exact .refl _ _
  ·cases h
 ·split at h
  ·injection h with h; injection h with _ h; subst h; exact .refl _ _
  ·cases h
 ·split at h
  ·obtain ⟨_, h⟩ := A6 h
   unfold He at h
   split at h
   ·unfold strO at h
    split at h
    ·injection h with h; injection h with _ h; subst h; exact .refl _ _
    ·cases h
   ·cases h
  ·injection h with h; injection h with _ h; subst h; exact .refl _ _
  ·injection h with h; injection h with _ h; subst h; exact .refl _ _
  ·cases h
 ·split at h
  ·injection h with h; injection h with _ h; subst h; exact .push _ _ _
  ·cases h
 ·split at h
  ·injection h with h; injection h with _ h; subst h; exact .refl _ _
  ·cases h
 ·split at h
  ·obtain ⟨_, h⟩ := A6 h; injection h with h; injection h with _ h; subst h; exact .refl _ _
  ·cases h
 ·cases h
theorem Hv {fl H i l c v' H'} (h : Gk H i l c = some (v', H')) : Grow fl H H' := by
 unfold Gk at h
 split at h
 ·obtain ⟨_, h⟩ := A6 h; injection h with h; injection h with _ h; subst h; exact .push _ _ _
 ·cases h
theorem Hu {T t ok H m k v' H'} (h : Cc T t ok H m k = some (v', H')) : H' = H := by
 unfold Cc at h
 split at h
 ·split at h
  ·obtain ⟨_, h⟩ := A6 h
   unfold Cb at h
   split at h
   ·split at h <;> (injection h with h; injection h with _ h; exact h.symm)
   ·split at h <;> (injection h with h; injection h with _ h; exact h.symm)
   ·cases h
  ·cases h
 ·cases h
theorem Kw {T t fl H k v m v' H'} (h : updV T t fl H k v m = some (v', H')) : Grow fl H H' := by
 unfold updV at h
 split at h
 ·split at h
  ·obtain ⟨hg, h⟩ := A6 h
   unfold updO at h
   split at h
   ·rename_i hm
    split at h
    ·injection h with h; injection h with _ h; subst h; exact .set hg.2 (.inr (MC hm))
    ·injection h with h; injection h with _ h; subst h; exact .set hg.2 (.inr (MC hm))
    ·cases h
   ·cases h
  ·cases h
 ·cases h
theorem G7 {fl T t n ixs H vs v' H'} (h : D5 T t n ixs H vs = some (v', H')) : Grow fl H H' := by
 unfold D5 at h
 split at h
 ·cases h
 ·split at h
  ·split at h
   ·obtain ⟨_, h⟩ := A6 h; exact QD h
   ·cases h
  ·cases h
theorem NW {H c a b v' H'} (h : Is H c a b = some (v', H')) : H' = H := by
 unfold Is at h
 split at h
 ·injection h with h; injection h with _ h; exact h.symm
 ·injection h with h; injection h with _ h; exact h.symm
 ·cases h
theorem HO {fl H i v' H'} (h : Fy H i = some (v', H')) : Grow fl H H' := by
 unfold Fy at h
 split at h
 ·exact Gs h
 ·cases h
theorem JH {fl H i v' H'} (h : mapO H i = some (v', H')) : Grow fl H H' := by
 unfold mapO at h
 split at h
 ·injection h with h; injection h with _ h; subst h; exact .push _ _ _
 ·cases h
theorem F8 {H v v' H'} (h : JW H v = some (v', H')) : v' = v ∧ H' = H := by
 unfold JW at h
 split at h
 ·injection h with h; injection h with h1 h; exact ⟨h1.symm, h.symm⟩
 ·injection h with h; injection h with h1 h; exact ⟨h1.symm, h.symm⟩
 ·cases h
theorem Se {H f vs v' H'} (h : fnO H f vs = some (v', H')) : H' = H := by
 unfold fnO at h
 split at h
 ·injection h with h; injection h with _ h; exact h.symm
 ·cases h
theorem Ej {call : AM} (hc : Cn call) {T G fl H o vs v' H'} (hf : fl ≤ H.length) (h : doOp call T G fl H o vs = some (v', H')) : Grow fl H H' := by
 unfold doOp at h
 split at h
 ·injection h with h; injection h with _ h; subst h; exact .refl _ _
 ·injection h with h; injection h with _ h; subst h; exact .refl _ _
 ·rw [NW h]; exact .refl _ _
 ·exact HO h
 ·exact Gs h
 ·exact AE h
 ·exact G7 h
 ·rw [CI h]; exact .refl _ _
 ·exact LN h
 ·rw [(F8 h).2]; exact .refl _ _
 ·exact AE h
 ·exact AE h
 ·exact Hg h
 ·rw [Se h]; exact .refl _ _
 ·exact JH h
 ·exact Hv h
 ·exact AE (A6 h).2
 ·exact AE (A6 h).2
 ·exact AE (A6 h).2
 ·exact AE (A6 h).2
 ·exact AE h
 ·exact AE h
 ·exact AE h
 ·exact AE h
 ·rw [Hu h]; exact .refl _ _
 ·exact Kw h
 ·exact Kw h
 ·exact AE h
 ·unfold Bt at h
  split at h
  ·exact Pe h
  ·unfold HY at h
   split at h
   ·exact hc _ _ _ _ _ _ h hf
   ·cases h
  ·cases h
 ·cases h
section
variable {P : Program} {C : Cfg} {ok : FuncId → Bool}
theorem JN {call : AM} {loop : AZ} (hc : Cn call) {keep fl ops env} : ∀ {rest loc H l' H'}, fl ≤ H.length → opsV (mk P C call loop keep fl) ops env rest loc H = some (l', H') → Grow fl H H' := by
 intro rest
 induction rest with
 | nil => intro loc H l' H' _ h; injection h with h; injection h with _ h; subst h; exact .refl _ _
 | cons o rest ih =>
   intro loc H l' H' hf h
   simp only [opsV] at h
   split at h
   ·split at h
    ·rename_i hs
     have g := Ej hc hf (Bb hs).1
     exact g.trans (ih (Nat.le_trans hf g.len) h)
    ·cases h
   ·exact ih hf h
   ·cases h
theorem BJ {call : AM} {loop : AZ} (hc : Cn call) (hl : FX loop) {keep fl} : ∀ {c e H x e' H'}, fl ≤ H.length → exec (mk P C call loop keep fl) c e H = some (x, e', H') → Grow fl H H' := by
 intro c
 induction c with
 | region id ops d =>
   intro e H x e' H' hf h
   simp only [exec] at h
   split at h
   ·rename_i hs; injection h with h; injection h with _ h; injection h with _ h; subst h; exact JN hc hf hs
   ·cases h
 | seq a b iha ihb =>
   intro e H x e' H' hf h
   simp only [exec] at h
   cases ha : exec (mk P C call loop keep fl) a e H with
   | none => rw [ha] at h; cases h
   | some y =>
     rw [ha] at h
     obtain ⟨y, e1, H1⟩ := y
     have g := iha hf ha
     cases y
     ·exact g.trans (ihb (Nat.le_trans hf g.len) h)
     ·injection h with h; injection h with _ h; injection h with _ h; subst h; exact g
     ·injection h with h; injection h with _ h; injection h with _ h; subst h; exact g
 | cond o a b iha ihb =>
   intro e H x e' H' hf h
   simp only [exec] at h
   split at h
   ·exact iha hf h
   ·exact ihb hf h
   ·cases h
 | block id c ih =>
   intro e H x e' H' hf h
   simp only [exec] at h
   cases ha : exec (mk P C call loop keep fl) c e H with
   | none => rw [ha] at h; cases h
   | some y =>
     rw [ha] at h
     obtain ⟨y, e1, H1⟩ := y
     have g := ih hf ha
     cases y
     ·injection h with h; injection h with _ h; injection h with _ h; subst h; exact g
     ·dsimp only at h; split at h <;> (injection h with h; injection h with _ h; injection h with _ h; subst h; exact g)
     ·injection h with h; injection h with _ h; injection h with _ h; subst h; exact g
 | loop c ih => intro e H x e' H' hf h; exact hl _ _ _ _ _ _ _ _ h hf
 | skip => intro e H x e' H' _ h; injection h with h; injection h with _ h; injection h with _ h; subst h; exact .refl _ _
 | label => intro e H x e' H' _ h; injection h with h; injection h with _ h; injection h with _ h; subst h; exact .refl _ _
 | exit => intro e H x e' H' _ h; injection h with h; injection h with _ h; injection h with _ h; subst h; exact .refl _ _
 | ret => intro e H x e' H' _ h; injection h with h; injection h with _ h; injection h with _ h; subst h; exact .refl _ _
 | _ => intro e H x e' H' _ h; cases h
theorem Hr {m fl H H' vs v' H''} (hf : fl ≤ H.length) (g : Grow (BK m fl H) H H') (h : EZ m H H' vs = some (v', H'')) : Grow fl H H'' := by
 unfold EZ at h
 split at h
 ·split at h
  ·obtain ⟨_, h⟩ := A6 h; injection h with h; injection h with _ h; subst h; exact .refl _ _
  ·injection h with h; injection h with _ h; subst h; exact g.mono (by simpa [BK] using hf)
  ·injection h with h; injection h with _ h; subst h; exact g
 ·cases h
theorem Ep (m : Mode) {fl : Nat} {H : LH} (hf : fl ≤ H.length) : fl ≤ BK m fl H ∧ BK m fl H ≤ H.length := by
 cases m <;> simp [BK] <;> omega
theorem Eg {call : AM} {loop : AZ} (hc : Cn call) (hl : FX loop) : Cn (Ar P C ok call loop) := by
 intro K args fl H v H' h hf
 unfold Ar at h
 split at h
 ·split at h
  ·split at h
   ·unfold BV Ac at h
    split at h
    ·rename_i hx; exact Hr hf (BJ hc hl (Ep _ hf).2 hx) h
    ·rename_i hx; exact Hr hf (BJ hc hl (Ep _ hf).2 hx) h
    ·cases h
   ·rw [(De h).1]; exact .refl _ _
  ·rw [(Mk h).1]; exact .refl _ _
 ·cases h
theorem In {call : AM} {loop : AZ} (hc : Cn call) (hl : FX loop) : FX (AL P C call loop) := by
 intro kp fl c e H x e' H' h hf
 unfold AL at h
 cases hx : exec (mk P C call loop kp fl) c e H with
 | none => rw [hx] at h; cases h
 | some y =>
   rw [hx] at h
   obtain ⟨y, e1, H1⟩ := y
   have g := BJ hc hl hf hx
   cases y
   ·exact g.trans (hl _ _ _ _ _ _ _ _ h (Nat.le_trans hf g.len))
   ·injection h with h; injection h with _ h; injection h with _ h; subst h; exact g
   ·injection h with h; injection h with _ h; injection h with _ h; subst h; exact g
theorem B0 : ∀ n, Cn (runN P C ok n).1 ∧ FX (runN P C ok n).2
 | 0 => ⟨fun _ _ _ _ _ _ h => (by cases h), fun _ _ _ _ _ _ _ _ h => (by cases h)⟩
 | n + 1 => ⟨Eg (B0 n).1 (B0 n).2, In (B0 n).1 (B0 n).2⟩
end
open Go.RowKit (Below)
abbrev Phi := Nat → Option (Nat × Nat)
def TP (w : World) (q n : Nat) : Prop := ∃ c T fz, w.heap[q]? = some (.cells c T fz) ∧ n ≤ c.size
mutual
def VR (φ : Phi) (w : World) : V → Value → Prop
 | .bool b, u => u = .bool b
 | .int k n, u => u = .int k n
 | .str s, u => u = .string s
 | .ptr b o, u => ∃ q d, φ b = some (q, d) ∧ u = .pointer (some ⟨q, d + o, none⟩)
 | .gptr g o, u => u = .pointer (some ⟨g, o, none⟩)
 | .nilp, u => u = .pointer none
 | .sl b o z n c, u => n ≤ c ∧ ∃ q d off c', φ b = some (q, d) ∧ u = .slice (some ⟨q, off, none⟩) n c' ∧ c ≤ c' ∧ (off = d + o ∨ c' = 0) ∧ TP w q (off + c' * z)
 | .nilsl, u => u = .slice none 0 0
 | .emp, u => ∃ a, u = .slice (some a) 0 0
 | .map b, u => ∃ q d, φ b = some (q, d) ∧ u = .map (some q)
 | .nilmap, u => u = .map none
 | .fn f caps, u => ∃ cs, u = .func (.func f) #[] ⟨cs⟩ ∧ VRs φ w caps cs
 | .nilfn, u => u = .nilFunc
 | .agg cs, u => cs.all V.isScal = true ∧ ∃ us, u = .agg ⟨us⟩ ∧ VRs φ w cs us
 | .tup cs, u => ∃ us, u = .tuple ⟨us⟩ ∧ VRs φ w cs us
def VRs (φ : Phi) (w : World) : List V → List Value → Prop
 | [], us => us = []
 | v :: vs, us => ∃ u us', us = u :: us' ∧ VR φ w v u ∧ VRs φ w vs us'
end
theorem An {φ : Phi} {w : World} : ∀ {vs : List V} {us : List Value}, VRs φ w vs us ↔ vs.length = us.length ∧ ∀ (i : Nat) (v : V), vs[i]? = some v → ∃ u, us[i]? = some u ∧ VR φ w v u
 | [], us => by
   simp only [VRs]
   constructor
   ·rintro rfl; exact ⟨rfl, fun i v h => by simp at h⟩
   ·rintro ⟨h, _⟩; exact List.eq_nil_of_length_eq_zero h.symm
 | v :: vs, us => by
   simp only [VRs]
   constructor
   ·rintro ⟨u, us', rfl, hv, hs⟩
    obtain ⟨hl, hi⟩ := An.1 hs
    refine ⟨by simp [hl], fun i x h => ?_⟩
    cases i with
    | zero => simp at h; subst h; exact ⟨u, rfl, hv⟩
    | succ i => simp at h; exact hi i x h
   ·rintro ⟨hl, hi⟩
    cases us with
    | nil => simp at hl
    | cons u us =>
      refine ⟨u, us, rfl, ?_, An.2 ⟨by simpa using hl, fun i x h => hi (i + 1) x h⟩⟩
      obtain ⟨u', hu, hv⟩ := hi 0 v rfl
      simp at hu; subst hu; exact hv
structure Ext (φ : Phi) (w : World) (φ' : Phi) (w' : World) : Prop where
 ext : ∀ b x, φ b = some x → φ' b = some x
 siz : ∀ q n, TP w q n → TP w' q n
theorem Ext.refl (φ : Phi) (w : World) : Ext φ w φ w := ⟨fun _ _ h => h, fun _ _ h => h⟩
theorem Ext.trans {φ φ' φ'' : Phi} {w w' w'' : World} (h : Ext φ w φ' w') (k : Ext φ' w' φ'' w'') : Ext φ w φ'' w'' :=
 ⟨fun b x e => k.ext b x (h.ext b x e), fun q n e => k.siz q n (h.siz q n e)⟩
mutual
theorem VR.mono {φ φ' : Phi} {w w' : World} (h : Ext φ w φ' w') : ∀ {v : V} {u : Value}, VR φ w v u → VR φ' w' v u
 | .bool _, _, e => by simp only [VR] at e ⊢; exact e
 | .int _ _, _, e => by simp only [VR] at e ⊢; exact e
 | .str _, _, e => by simp only [VR] at e ⊢; exact e
 | .ptr _ _, _, e => by simp only [VR] at e ⊢; obtain ⟨q, d, hb, e⟩ := e; exact ⟨q, d, h.ext _ _ hb, e⟩
 | .gptr _ _, _, e => by simp only [VR] at e ⊢; exact e
 | .nilp, _, e => by simp only [VR] at e ⊢; exact e
 | .sl _ _ _ _ _, _, e => by
   simp only [VR] at e ⊢
   obtain ⟨hn, q, d, off, c', hb, e, hc, ho, hr⟩ := e
   exact ⟨hn, q, d, off, c', h.ext _ _ hb, e, hc, ho, h.siz _ _ hr⟩
 | .nilsl, _, e => by simp only [VR] at e ⊢; exact e
 | .emp, _, e => by simp only [VR] at e ⊢; exact e
 | .map _, _, e => by simp only [VR] at e ⊢; obtain ⟨q, d, hb, e⟩ := e; exact ⟨q, d, h.ext _ _ hb, e⟩
 | .nilmap, _, e => by simp only [VR] at e ⊢; exact e
 | .fn _ _, _, e => by simp only [VR] at e ⊢; obtain ⟨cs, e, k⟩ := e; exact ⟨cs, e, VRs.mono h k⟩
 | .nilfn, _, e => by simp only [VR] at e ⊢; exact e
 | .agg _, _, e => by simp only [VR] at e ⊢; obtain ⟨hs, us, e, k⟩ := e; exact ⟨hs, us, e, VRs.mono h k⟩
 | .tup _, _, e => by simp only [VR] at e ⊢; obtain ⟨us, e, k⟩ := e; exact ⟨us, e, VRs.mono h k⟩
theorem VRs.mono {φ φ' : Phi} {w w' : World} (h : Ext φ w φ' w') : ∀ {vs : List V} {us : List Value}, VRs φ w vs us → VRs φ' w' vs us
 | [], _, e => by simp only [VRs] at e ⊢; exact e
 | _ :: _, _, e => by
   simp only [VRs] at e ⊢
   obtain ⟨u, us', e, k, ks⟩ := e
   exact ⟨u, us', e, VR.mono h k, VRs.mono h ks⟩
end
def EsR (φ : Phi) (w : World) : List (V × V) → List MapEntry → Prop
 | [], us => us = []
 | (k, v) :: es, us => ∃ m us', us = m :: us' ∧ VR φ w k m.key ∧ VR φ w v m.val ∧ EsR φ w es us'
theorem EsR.mono {φ φ' : Phi} {w w' : World} (h : Ext φ w φ' w') : ∀ {es : List (V × V)} {us : List MapEntry}, EsR φ w es us → EsR φ' w' es us
 | [], _, e => e
 | (_, _) :: _, _, ⟨m, us', e, a, b, c⟩ => ⟨m, us', e, a.mono h, b.mono h, EsR.mono h c⟩
def BlkR (wr : Prop) (φ : Phi) (w : World) (q d : Nat) : Blk → Prop
 | .cells cs => ∃ c T fz, w.heap[q]? = some (.cells c T fz) ∧ d + cs.length ≤ c.size ∧ (∀ (i : Nat) (v : V), cs[i]? = some v → v.isScal = true ∧ ∃ u, c[d + i]? = some u ∧ VR φ w v u) ∧
    (wr → ∀ i, i < c.size → ¬ (fz.1 ≤ i ∧ (i < fz.2 ∨ fz.2 < fz.1)))
 | .map es => ∃ us clk, w.heap[q]? = some (.map us clk) ∧ EsR φ w es us.toList
 | .dead => True
theorem BlkR.mono {wr : Prop} {φ φ' : Phi} {w w' : World} {q d : Nat} (h : Ext φ w φ' w') (hq : w'.heap[q]? = w.heap[q]?) : ∀ {x : Blk}, BlkR wr φ w q d x → BlkR wr φ' w' q d x
 | .cells _, ⟨c, T, fz, e, hl, hv, hf⟩ => ⟨c, T, fz, hq.trans e, hl, fun i v hi => let ⟨hs, u, hu, r⟩ := hv i v hi; ⟨hs, u, hu, r.mono h⟩, hf⟩
 | .map _, ⟨us, clk, e, r⟩ => ⟨us, clk, hq.trans e, r.mono h⟩
 | .dead, _ => trivial
def Gone (H : LH) (b : Nat) : Prop := ∀ x, H[b]? = some x → x = .dead
theorem Gone.of {H : LH} {b : Nat} (h : H[b]? = some .dead) : Gone H b := fun x e => by rw [h] at e; injection e with e; exact e.symm
theorem Gone.left {H L : LH} {b : Nat} (h : Gone (H ++ L) b) : Gone H b := fun x e => h x (by rw [List.getElem?_append_left (List.getElem?_eq_some_iff.1 e).1]; exact e)
theorem Gone.push {H : LH} {b : Nat} (h : Gone H b) (x : Blk) (hb : b ≠ H.length) : Gone (H ++ [x]) b := by
 intro y e
 rcases Nat.lt_or_ge b H.length with hl | hl
 ·rw [List.getElem?_append_left hl] at e; exact h y e
 ·have := (List.getElem?_eq_some_iff.1 e).1
  simp at this
  omega
theorem Gone.set {H : LH} {b i : Nat} {x : Blk} (h : Gone H i) (hx : x = .dead ∨ b ≠ i) : Gone (H.set b x) i := by
 intro y e
 by_cases hb : b = i
 ·subst hb
  have hl := (List.getElem?_eq_some_iff.1 e).1
  rw [List.getElem?_set_self (by simpa using hl)] at e
  injection e with e
  rcases hx with rfl | hx
  ·exact e.symm
  ·exact absurd rfl hx
 ·rw [List.getElem?_set_ne hb] at e; exact h y e
structure Par where
 R0 : Nat
 Q0 : Nat
 w0 : World
 G : Nat → Option (List V)
structure HR (p : Par) (φ : Phi) (H : LH) (w : World) : Prop where
 blk : ∀ b q d x, φ b = some (q, d) → H[b]? = some x → BlkR (p.R0 ≤ b) φ w q d x
 bnd : ∀ b q d, φ b = some (q, d) → q < w.heap.size
 inj : ∀ b b' q d d', φ b = some (q, d) → φ b' = some (q, d') → p.R0 ≤ b → b ≠ b' → Gone H b ∨ Gone H b'
 low : ∀ b q d, φ b = some (q, d) → p.R0 ≤ b → p.Q0 ≤ q
 q0 : p.Q0 ≤ w.heap.size
 old : Below p.Q0 p.w0 w
 glo : ∀ g cs, p.G g = some cs → g < p.Q0 ∧ ∃ c T fz, p.w0.heap[g]? = some (.cells c T fz) ∧ cs.length ≤ c.size ∧ ∀ (i : Nat) (v : V), cs[i]? = some v → v.isScal = true ∧ ∃ u, c[i]? = some u ∧ ∀ φ w, VR φ w v u
structure Step (fl : Nat) (φ : Phi) (H : LH) (w : World) (φ' : Phi) (H' : LH) (w' : World) : Prop where
 ext : Ext φ w φ' w'
 dom : ∀ b x, φ' b = some x → φ b = none → H.length ≤ b ∧ b < H'.length
 img : ∀ b q d, φ' b = some (q, d) → φ b = none → w.heap.size ≤ q ∨ ∃ b0 d0, fl ≤ b0 ∧ b0 < H.length ∧ φ b0 = some (q, d0)
 frm : ∀ q, q < w.heap.size → (∀ b d, fl ≤ b → b < H.length → φ b ≠ some (q, d)) → w'.heap[q]? = w.heap[q]?
 len : w.heap.size ≤ w'.heap.size
 grow : Grow fl H H'
def NoFloat (φ : Phi) (H H' : LH) : Prop := ∀ b x, φ b = some x → b < H.length ∨ H'.length ≤ b
theorem Step.refl {fl : Nat} {φ : Phi} {H : LH} {w : World} : Step fl φ H w φ H w :=
 ⟨.refl _ _, fun b x h e => (by rw [e] at h; cases h), fun b q d h e => (by rw [e] at h; cases h), fun _ _ _ => rfl, Nat.le_refl _, .refl _ _⟩
theorem Step.trans {fl : Nat} {φ φ1 φ2 : Phi} {H H1 H2 : LH} {w w1 w2 : World} (h : Step fl φ H w φ1 H1 w1) (k : Step fl φ1 H1 w1 φ2 H2 w2) (nf : NoFloat φ H H1) : Step fl φ H w φ2 H2 w2 := by
 refine ⟨h.ext.trans k.ext, ?_, ?_, ?_, Nat.le_trans h.len k.len, h.grow.trans k.grow⟩
 ·intro b x e n
  cases h1 : φ1 b with
  | none => have := k.dom b x e h1; have := h.grow.len; omega
  | some y => have := h.dom b y h1 n; have := k.grow.len; omega
 ·intro b q d e n
  cases h1 : φ1 b with
  | some y =>
    have := k.ext.ext b y h1
    rw [e] at this; injection this with this; subst this
    exact h.img b q d h1 n
  | none =>
    rcases k.img b q d e h1 with hq | ⟨b0, d0, hb, hl, hp⟩
    ·exact .inl (Nat.le_trans h.len hq)
    ·cases h0 : φ b0 with
     | some y =>
       have := h.ext.ext b0 y h0
       rw [hp] at this; injection this with this; subst this
       rcases nf b0 _ h0 with h3 | h3
       ·exact .inr ⟨b0, d0, hb, h3, h0⟩
       ·omega
     | none => exact h.img b0 q d0 hp h0
 ·intro q hq hn
  have e1 := h.frm q hq hn
  rw [← e1]
  refine k.frm q (Nat.lt_of_lt_of_le hq h.len) fun b d hb hl hp => ?_
  cases h0 : φ b with
  | some y =>
    have := h.ext.ext b y h0
    rw [hp] at this; injection this with this; subst this
    rcases nf b _ h0 with h3 | h3
    ·exact hn b d hb h3 h0
    ·omega
  | none =>
    rcases h.img b q d hp h0 with h3 | ⟨b0, d0, h4, h5, h6⟩
    ·omega
    ·exact hn b0 d0 h4 h5 h6
theorem NoFloat.left {φ : Phi} {H H1 H2 : LH} (h : NoFloat φ H H2) (hl : H1.length ≤ H2.length) : NoFloat φ H H1 := fun b x e => (h b x e).imp id (fun k => Nat.le_trans hl k)
theorem NoFloat.right {fl : Nat} {φ φ1 : Phi} {H H1 H2 : LH} {w w1 : World} (h : NoFloat φ H H2) (s : Step fl φ H w φ1 H1 w1) : NoFloat φ1 H1 H2 := by
 intro b x e
 cases h0 : φ b with
 | none => exact .inl (s.dom b x e h0).2
 | some y =>
   rcases h b y h0 with h | h
   ·exact .inl (Nat.lt_of_lt_of_le h s.grow.len)
   ·exact .inr h
section
variable {p : Par} {φ : Phi} {H : LH} {w : World}
theorem HR.drew (h : HR p φ H w) (n : Nat) : HR p φ H { w with drawn := n } := by
 have he : Ext φ w φ { w with drawn := n } := ⟨fun _ _ h => h, fun _ _ h => h⟩
 exact ⟨fun b q d x e hx => (h.blk b q d x e hx).mono he rfl, h.bnd, h.inj, h.low, h.q0, ⟨h.old.os, h.old.tape, h.old.output, h.old.size, h.old.block⟩, h.glo⟩
theorem Step.drew {fl : Nat} (n : Nat) : Step fl φ H w φ H { w with drawn := n } :=
 ⟨⟨fun _ _ h => h, fun _ _ h => h⟩, fun b x h e => (by rw [e] at h; cases h), fun b q d h e => (by rw [e] at h; cases h), fun _ _ _ => rfl, Nat.le_refl _, .refl _ _⟩
def Phi.put (φ : Phi) (b q d : Nat) : Phi := fun i => if i = b then some (q, d) else φ i
theorem Ea (w : World) (o : Obj) (q : Nat) (h : q < w.heap.size) : ({ w with heap := w.heap.push o } : World).heap[q]? = w.heap[q]? := by
 show (w.heap.push o)[q]? = _
 rw [Array.getElem?_push, if_neg (by omega)]
theorem C3 (w : World) (o : Obj) : ({ w with heap := w.heap.push o } : World).heap[w.heap.size]? = some o := by
 show (w.heap.push o)[w.heap.size]? = _
 rw [Array.getElem?_push, if_pos rfl]
theorem Lf (h : HR p φ H w) (o : Obj) (hb : φ H.length = none) : Ext φ w (φ.put H.length w.heap.size 0) { w with heap := w.heap.push o } := by
 refine ⟨fun b x e => ?_, fun q n ⟨c, T, fz, e, hn⟩ => ?_⟩
 ·unfold Phi.put
  by_cases hbb : b = H.length
  ·subst hbb; rw [hb] at e; cases e
  ·rw [if_neg hbb]; exact e
 ·refine ⟨c, T, fz, ?_, hn⟩
  have hq : q < w.heap.size := (Array.getElem?_eq_some_iff.1 e).1
  rw [Ea _ _ _ hq]; exact e
theorem Tw (h : HR p φ H w) {x : Blk} {o : Obj} (hb : φ H.length = none) (hR : p.R0 ≤ H.length)
 (hx : BlkR (p.R0 ≤ H.length) (φ.put H.length w.heap.size 0) { w with heap := w.heap.push o } w.heap.size 0 x) :
 HR p (φ.put H.length w.heap.size 0) (H ++ [x]) { w with heap := w.heap.push o } := by
 have he := Lf h o hb
 have hsz : ({ w with heap := w.heap.push o } : World).heap.size = w.heap.size + 1 := by show (w.heap.push o).size = _; simp
 refine ⟨?_, ?_, ?_, ?_, ?_, ?_, h.glo⟩
 ·intro b q d y e hy
  unfold Phi.put at e
  by_cases hbb : b = H.length
  ·subst hbb
   rw [if_pos rfl] at e; injection e with e; injection e with e1 e2; subst e1; subst e2
   have : (H ++ [x])[H.length]? = some x := by simp
   rw [this] at hy; injection hy with hy; subst hy; exact hx
  ·rw [if_neg hbb] at e
   have hl : b < H.length := by
    have := (List.getElem?_eq_some_iff.1 hy).1
    simp at this; omega
   rw [List.getElem?_append_left hl] at hy
   exact (h.blk b q d y e hy).mono he (Ea _ _ _ (h.bnd b q d e))
 ·intro b q d e
  rw [hsz]
  unfold Phi.put at e
  by_cases hbb : b = H.length
  ·rw [if_pos hbb] at e; injection e with e; injection e with e1 e2; omega
  ·rw [if_neg hbb] at e; have := h.bnd b q d e; omega
 ·intro b b' q d d' e e' hr hne
  unfold Phi.put at e e'
  by_cases hbb : b = H.length
  ·rw [if_pos hbb] at e; injection e with e; injection e with e1 e2
   rw [if_neg (by omega)] at e'
   have := h.bnd b' q d' e'; omega
  ·rw [if_neg hbb] at e
   by_cases hbb' : b' = H.length
   ·rw [if_pos hbb'] at e'; injection e' with e'; injection e' with e1 e2
    have := h.bnd b q d e; omega
   ·rw [if_neg hbb'] at e'
    rcases h.inj b b' q d d' e e' hr hne with h3 | h3
    ·left; exact h3.push _ hbb
    ·right; exact h3.push _ hbb'
 ·intro b q d e hr
  unfold Phi.put at e
  by_cases hbb : b = H.length
  ·rw [if_pos hbb] at e; injection e with e; injection e with e1 e2; have := h.q0; omega
  ·rw [if_neg hbb] at e; exact h.low b q d e hr
 ·rw [hsz]; have := h.q0; omega
 ·exact h.old.trans ⟨rfl, rfl, rfl, by rw [hsz]; omega, fun k hk => Ea _ _ _ (by have := h.q0; omega)⟩
theorem MF {fl : Nat} (h : HR p φ H w) {x : Blk} {o : Obj} (hb : φ H.length = none) :
 Step fl φ H w (φ.put H.length w.heap.size 0) (H ++ [x]) { w with heap := w.heap.push o } := by
 refine ⟨Lf h o hb, ?_, ?_, fun q hq _ => Ea _ _ _ hq, by show _ ≤ (w.heap.push o).size; simp, .push _ _ _⟩
 ·intro b y e n
  unfold Phi.put at e
  by_cases hbb : b = H.length
  ·subst hbb; exact ⟨Nat.le_refl _, by simp⟩
  ·rw [if_neg hbb] at e; rw [e] at n; cases n
 ·intro b q d e n
  unfold Phi.put at e
  by_cases hbb : b = H.length
  ·rw [if_pos hbb] at e; injection e with e; injection e with e1 e2; left; omega
  ·rw [if_neg hbb] at e; rw [e] at n; cases n
theorem NoFloat.new {x : Blk} (h : NoFloat φ H (H ++ [x])) : φ H.length = none := by
 cases e : φ H.length with
 | none => rfl
 | some y => rcases h _ y e with h | h <;> simp at h <;> omega
theorem MV {fl b q d : Nat} (h : HR p φ H w) {x y : Blk} {o o' : Obj} (hp : φ b = some (q, d)) (hfl : fl ≤ b) (hR : p.R0 ≤ fl) (hy : H[b]? = some y) (hyd : y ≠ .dead) (hq : w.heap[q]? = some o)
 (hsz : ∀ c T fz, o = .cells c T fz → ∃ c' T' fz', o' = .cells c' T' fz' ∧ c'.size = c.size)
 (hx : ∀ w', (∀ i, w'.heap[i]? = if i = q then some o' else w.heap[i]?) → Ext φ w φ w' → BlkR (p.R0 ≤ b) φ w' q d x) :
 HR p φ (H.set b x) { w with heap := w.heap.setIfInBounds q o' } ∧ Step fl φ H w φ (H.set b x) { w with heap := w.heap.setIfInBounds q o' } := by
 have hqs : q < w.heap.size := h.bnd b q d hp
 have hget : ∀ i, ({ w with heap := w.heap.setIfInBounds q o' } : World).heap[i]? = if i = q then some o' else w.heap[i]? := by
  intro i
  show (w.heap.setIfInBounds q o')[i]? = _
  rw [Array.getElem?_setIfInBounds]
  by_cases hi : i = q
  ·subst hi; simp [hqs]
  ·rw [if_neg (fun e => hi e.symm), if_neg hi]
 have he : Ext φ w φ { w with heap := w.heap.setIfInBounds q o' } := by
  refine ⟨fun _ _ e => e, fun i n ⟨c, T, fz, e, hn⟩ => ?_⟩
  by_cases hi : i = q
  ·subst hi
   rw [hq] at e; injection e with e
   obtain ⟨c', T', fz', e', hc⟩ := hsz c T fz e
   exact ⟨c', T', fz', by rw [hget, if_pos rfl, e'], by omega⟩
  ·exact ⟨c, T, fz, by rw [hget, if_neg hi]; exact e, hn⟩
 have hbl : b < H.length := (List.getElem?_eq_some_iff.1 hy).1
 have hrb : p.R0 ≤ b := Nat.le_trans hR hfl
 have hsize : ({ w with heap := w.heap.setIfInBounds q o' } : World).heap.size = w.heap.size := by show (w.heap.setIfInBounds q o').size = _; simp
 have hdead : ∀ i : Nat, Gone H i → Gone (H.set b x) i := fun i hi => hi.set (.inr fun e => by subst e; exact hyd (hi _ hy))
 refine ⟨⟨?_, ?_, ?_, h.low, by rw [hsize]; exact h.q0, ?_, h.glo⟩, ⟨he, fun i z e n => (by rw [e] at n; cases n), fun i z y e n => (by rw [e] at n; cases n), ?_, by rw [hsize]; exact Nat.le_refl _, ?_⟩⟩
 ·intro i q' d' z e hz
  by_cases hi : i = b
  ·subst hi
   rw [hp] at e; injection e with e; injection e with e1 e2; subst e1; subst e2
   rw [List.getElem?_set_self hbl] at hz; injection hz with hz; subst hz
   exact hx _ hget he
  ·rw [List.getElem?_set_ne (fun e => hi e.symm)] at hz
   by_cases hqq : q' = q
   ·subst hqq
    rcases h.inj b i q' d d' hp e hrb (fun e => hi e.symm) with h3 | h3
    ·exact absurd (h3 _ hy) hyd
    ·rw [h3 _ hz]; trivial
   ·exact (h.blk i q' d' z e hz).mono he (by rw [hget, if_neg hqq])
 ·intro i q' d' e; rw [hsize]; exact h.bnd i q' d' e
 ·intro i i' q' d1 d2 e e' hr hne
  rcases h.inj i i' q' d1 d2 e e' hr hne with h3 | h3
  ·exact .inl (hdead _ h3)
  ·exact .inr (hdead _ h3)
 ·refine h.old.trans ⟨rfl, rfl, rfl, by rw [hsize]; exact Nat.le_refl _, fun k hk => ?_⟩
  rw [hget, if_neg]
  have := h.low b q d hp hrb
  omega
 ·intro i hi hn
  rw [hget, if_neg]
  intro e; subst e
  exact hn b d hfl hbl hp
 ·exact .set hfl (.inr (by rw [hy]; intro e; injection e with e; exact hyd e))
theorem Ug {fl b : Nat} (h : HR p φ H w) (hfl : fl ≤ b) : HR p φ (H.set b .dead) w ∧ Step fl φ H w φ (H.set b .dead) w := by
 have hdead : ∀ i : Nat, Gone H i → Gone (H.set b .dead) i := fun i hi => hi.set (.inl rfl)
 refine ⟨⟨?_, h.bnd, ?_, h.low, h.q0, h.old, h.glo⟩, ⟨.refl _ _, fun i z e n => (by rw [e] at n; cases n), fun i z y e n => (by rw [e] at n; cases n), fun _ _ _ => rfl, Nat.le_refl _, .set hfl (.inl rfl)⟩⟩
 ·intro i q' d' z e hz
  by_cases hi : b = i
  ·subst hi
   by_cases hbl : b < H.length
   ·rw [List.getElem?_set_self hbl] at hz; injection hz with hz; subst hz; trivial
   ·rw [List.getElem?_eq_none (by simp; omega)] at hz; cases hz
  ·rw [List.getElem?_set_ne hi] at hz; exact h.blk i q' d' z e hz
 ·intro i i' q' d1 d2 e e' hr hne
  rcases h.inj i i' q' d1 d2 e e' hr hne with h3 | h3
  ·exact .inl (hdead _ h3)
  ·exact .inr (hdead _ h3)
end
open Go.RowKit (Below)
def putA (c : Array Value) (o : Nat) : List Value → Array Value
 | [] => c
 | x :: xs => putA (c.setIfInBounds o x) (o + 1) xs
theorem Cf : ∀ (xs : List Value) (c : Array Value) (o : Nat), (putA c o xs).size = c.size
 | [], _, _ => rfl
 | x :: xs, c, o => by rw [putA, Cf xs]; simp
theorem FJ : ∀ (xs : List Value) (c : Array Value) (o i : Nat), o + xs.length ≤ c.size → (putA c o xs)[i]? = if o ≤ i ∧ i < o + xs.length then xs[i - o]? else c[i]?
 | [], c, o, i, _ => by rw [putA, if_neg (by simp only [List.length_nil]; omega)]
 | x :: xs, c, o, i, h => by
   simp only [List.length_cons] at h
   rw [putA, FJ xs _ _ _ (by simp; omega)]
   by_cases h1 : o + 1 ≤ i ∧ i < o + 1 + xs.length
   ·rw [if_pos h1, if_pos (by simp; omega)]
    rw [show i - o = (i - (o + 1)) + 1 by omega, List.getElem?_cons_succ]
   ·rw [if_neg h1, Array.getElem?_setIfInBounds]
    by_cases h2 : i = o
    ·subst h2; rw [if_pos rfl, if_pos (by omega), if_pos (by simp)]; simp
    ·rw [if_neg (by omega), if_neg (by simp; omega)]
theorem Cv : ∀ (xs cs : List V) (o : Nat), (Bw cs o xs).length = cs.length
 | [], _, _ => rfl
 | x :: xs, cs, o => by rw [Bw, Cv xs]; simp
theorem EB : ∀ (xs cs : List V) (o i : Nat), o + xs.length ≤ cs.length → (Bw cs o xs)[i]? = if o ≤ i ∧ i < o + xs.length then xs[i - o]? else cs[i]?
 | [], cs, o, i, _ => by rw [Bw, if_neg (by simp only [List.length_nil]; omega)]
 | x :: xs, cs, o, i, h => by
   simp only [List.length_cons] at h
   rw [Bw, EB xs _ _ _ (by simp; omega)]
   by_cases h1 : o + 1 ≤ i ∧ i < o + 1 + xs.length
   ·rw [if_pos h1, if_pos (by simp; omega)]
    rw [show i - o = (i - (o + 1)) + 1 by omega, List.getElem?_cons_succ]
   ·rw [if_neg h1, List.getElem?_set]
    by_cases h2 : i = o
    ·subst h2; rw [if_pos rfl, if_pos (by omega), if_pos (by simp)]; simp
    ·rw [if_neg (by omega), if_neg (by simp; omega)]
theorem BS (q o i : Nat) : (⟨q, o, none⟩ : Addr).add i = ⟨q, o + i, none⟩ := by unfold Addr.add; split <;> simp_all
theorem J3 {u : Value} {v : V} (h : scal u = some v) (φ : Phi) (w : World) : VR φ w v u ∧ v.isScal = true ∧ u.oneCell' = true := by
 unfold scal at h
 split at h <;> first
  | (cases h; done)
  | (injection h with h; subst h; refine ⟨?_, rfl, rfl⟩; simp only [VR]; done)
  | (injection h with h; subst h; exact ⟨by simp only [VR, VRs]; exact ⟨[], rfl, rfl⟩, rfl, rfl⟩)
theorem G0 : ∀ {us : List Value} {vs : List V}, IR us = some vs → ∀ (φ : Phi) (w : World), VRs φ w vs us ∧ vs.all V.isScal = true
 | [], vs, h, φ, w => by injection h with h; subst h; exact ⟨by simp only [VRs], rfl⟩
 | u :: us, vs, h, φ, w => by
   simp only [IR] at h
   split at h
   ·rename_i x xs hx hxs
    injection h with h; subst h
    obtain ⟨h1, h2, _⟩ := J3 hx φ w
    obtain ⟨h3, h4⟩ := G0 hxs φ w
    exact ⟨by simp only [VRs]; exact ⟨u, us, rfl, h1, h3⟩, by simp [h2, h4]⟩
   ·cases h
theorem Dv {u : Value} {v : V} (h : ofValue u = some v) (φ : Phi) (w : World) : VR φ w v u := by
 unfold ofValue at h
 split at h
 ·rename_i cs
  cases hs : IR cs with
  | none => rw [hs] at h; cases h
  | some vs =>
    rw [hs] at h; injection h with h; subst h
    obtain ⟨h1, h2⟩ := G0 hs φ w
    simp only [VR]; exact ⟨h2, cs, rfl, h1⟩
 ·injection h with h; subst h; simp only [VR, VRs]; exact ⟨[], rfl, rfl⟩
 ·exact (J3 h φ w).1
theorem OA {φ : Phi} {w : World} {v : V} {u : Value} (h : VR φ w v u) (hs : v.isScal = true) : u.oneCell' = true ∧ v.cells = [v] ∧ u.cells = #[u] := by
 cases v <;> simp only [VR] at h <;> first
  | (cases hs; done)
  | (subst h; exact ⟨rfl, rfl, rfl⟩)
  | (obtain ⟨q, d, _, rfl⟩ := h; exact ⟨rfl, rfl, rfl⟩)
  | (obtain ⟨_, q, d, off, c', _, rfl, _⟩ := h; exact ⟨rfl, rfl, rfl⟩)
  | (obtain ⟨cs, rfl, _⟩ := h; exact ⟨rfl, rfl, rfl⟩)
theorem Du {φ : Phi} {w : World} {v : V} {u : Value} (h : VR φ w v u) (ht : v.isTup = false) : VRs φ w v.cells u.cells.toList ∧ v.cells.all V.isScal = true := by
 cases v with
 | agg cs =>
   simp only [VR] at h
   obtain ⟨hs, us, rfl, k⟩ := h
   exact ⟨k, hs⟩
 | tup => cases ht
 | _ =>
   obtain ⟨_, h2, h3⟩ := OA h rfl
   rw [h2, h3]
   exact ⟨by simp only [VRs]; exact ⟨u, [], rfl, h, rfl⟩, rfl⟩
theorem ER {vs : List V} {f : V → Bool} (h : vs.all f = true) {i : Nat} {v : V} (hv : vs[i]? = some v) : f v = true := List.all_eq_true.1 h v (List.mem_of_getElem? hv)
section
variable {P : Program}
theorem D3 {t : TypeId} {i : TI} (h : ty P t = some i) : ∃ j d, P.info? t = some j ∧ P.underlying t = some d ∧ i = ⟨j.size, j.bytes, tkOf P t d, j.zero.bind ofValue⟩ := by
 unfold ty at h
 split at h
 ·rename_i j d h1 h2; injection h with h; exact ⟨j, d, h1, h2, h.symm⟩
 ·cases h
theorem Bi {t : TypeId} {i : TI} (h : ty P t = some i) (w : World) : (sizeOf t).run P w = .ok i.size w := by
 obtain ⟨j, d, h1, h2, rfl⟩ := D3 h
 simp [sizeOf, typeInfo, h1]
theorem Ww (t : TypeId) (d : TypeDesc) : (tkOf P t d).isAgg = (match d with | .struct _ => true | .array _ _ => true | _ => false) := by cases d <;> rfl
theorem TF {t : TypeId} {i : TI} (h : ty P t = some i) (w : World) : (isAgg t).run P w = .ok i.kind.isAgg w := by
 obtain ⟨j, d, h1, h2, rfl⟩ := D3 h
 simp only [isAgg, Sem.run_bind, run_underlying h2, Result.andThen_ok, Ww]
 cases d <;> rfl
theorem GP {t : TypeId} {i : TI} {z : V} (h : ty P t = some i) (hz : i.zero = some z) (w : World) : ∃ u, (zeroValue t).run P w = .ok u w ∧ ∀ φ w, VR φ w z u := by
 obtain ⟨j, d, h1, h2, rfl⟩ := D3 h
 simp only [Option.bind_eq_some_iff] at hz
 obtain ⟨u, hu, hz⟩ := hz
 exact ⟨u, by simp [zeroValue, typeInfo, h1, hu], Dv hz⟩
theorem Bc {t : TypeId} {i : TI} (h : ty P t = some i) (w : World) : ∃ d, (underlying t).run P w = .ok d w ∧ i.kind = tkOf P t d ∧ P.underlying t = some d := by
 obtain ⟨j, d, h1, h2, rfl⟩ := D3 h
 exact ⟨d, run_underlying h2 w, rfl, h2⟩
theorem FR {t : TypeId} {d : TypeDesc} {e : TypeId} (h : tkOf P t d = .slice e) : d = .slice e := by
 cases d <;> simp [tkOf] at h; exact congrArg _ h
theorem SX {t : TypeId} {d : TypeDesc} {n : Nat} {e : TypeId} (h : tkOf P t d = .array n e) : d = .array n e := by
 cases d <;> simp [tkOf] at h; rw [h.1, h.2]
theorem Wy {t : TypeId} {d : TypeDesc} {k e : TypeId} (h : tkOf P t d = .map k e) : d = .map k e := by
 cases d <;> simp [tkOf] at h; rw [h.1, h.2]
theorem Wx {t : TypeId} {d : TypeDesc} {k : IntKind} (h : tkOf P t d = .int k) : d = .int k := by
 cases d <;> simp [tkOf] at h; rw [h]
theorem Wz {t : TypeId} {d : TypeDesc} (h : tkOf P t d = .str) : d = .string := by
 cases d <;> simp [tkOf] at h; rfl
theorem Rd {t : TypeId} {d : TypeDesc} (h : tkOf P t d = .bool) : d = .bool := by
 cases d <;> simp [tkOf] at h; rfl
theorem Ku {t : TypeId} {d : TypeDesc} {fs : List (Nat × TypeId)} {b : Option (List Nat)} (h : tkOf P t d = .struct fs b) :
 ∃ gs : Array Field, d = .struct gs ∧ fs = gs.toList.map (fun f => (f.offset, f.type)) ∧ b = (if P.stoodInHeld t then none else Cs P 0 gs.toList) := by
 cases d with
 | struct gs => simp only [tkOf] at h; injection h with h1 h2; exact ⟨gs, rfl, h1.symm, h2.symm⟩
 | _ => simp [tkOf] at h
end
section
variable {P : Program} {p : Par} {φ : Phi} {H : LH} {w : World}
theorem KG {c : Array Value} {T : TypeId} {fz : Nat × Nat} {q : Nat} (h : w.heap[q]? = some (.cells c T fz)) (i : Nat) : w.cell? ⟨q, i, none⟩ = c[i]? := by
 simp [World.cell?, h]
theorem PG {c : Array Value} {T : TypeId} {fz : Nat × Nat} {q : Nat} (h : w.heap[q]? = some (.cells c T fz)) {i : Nat} (hn : ¬ (fz.1 ≤ i ∧ i < fz.2)) : w.frozen? ⟨q, i, none⟩ = false := by
 obtain ⟨lo, hi⟩ := fz
 simp only [World.frozen?, h]
 simp at hn ⊢
 exact hn
theorem Fq {c : Array Value} {T : TypeId} {fz : Nat × Nat} {q o : Nat} (h : w.heap[q]? = some (.cells c T fz)) (us : List Value) (hu : ∀ i u, us[i]? = some u → c[o + i]? = some u) :
 (loadCells ⟨q, o, none⟩ us.length).run P w = .ok us.toArray w :=
 run_loadCells_list w _ us fun j v hj => by rw [BS, KG h]; exact hu j v hj
theorem IL {c : Array Value} {T : TypeId} {fz : Nat × Nat} {q o : Nat} (h : w.heap[q]? = some (.cells c T fz)) {u : Value} (hu : c[o]? = some u) :
 (load ⟨q, o, none⟩).run P w = .ok u w := by
 rw [run_load, KG h, hu]
theorem CZ {T : TypeId} {fz : Nat × Nat} {q o : Nat} : ∀ (us : List Value) (i : Nat) (c : Array Value) (w : World), w.heap[q]? = some (.cells c T fz) → o + i + us.length ≤ c.size →
 (∀ i, i < c.size → ¬ (fz.1 ≤ i ∧ i < fz.2)) → (∀ u ∈ us, u.oneCell' = true) →
 (storeCells ⟨q, o, none⟩ us i).run P w = .ok () { w with heap := w.heap.setIfInBounds q (.cells (putA c (o + i) us) T fz) }
 | [], i, c, w, h, _, _, _ => by
   have : w.heap.setIfInBounds q (.cells (putA c (o + i) []) T fz) = w.heap := by
    apply Array.ext_getElem?
    intro j
    rw [Array.getElem?_setIfInBounds]
    by_cases hj : q = j
    ·subst hj; rw [if_pos rfl, if_pos (Array.getElem?_eq_some_iff.1 h).1, h]; rfl
    ·rw [if_neg hj]
   simp only [storeCells, this]; rfl
 | u :: us, i, c, w, h, hl, hf, h1 => by
   simp only [List.length_cons] at hl
   have hi : o + i < c.size := by omega
   have hcell : w.cell? ⟨q, o + i, none⟩ = some c[o + i] := by rw [KG h, Array.getElem?_eq_getElem hi]
   have hfro : w.frozen? ⟨q, o + i, none⟩ = false := PG h (hf _ hi)
   have hset : w.setCell ⟨q, o + i, none⟩ u = { w with heap := w.heap.setIfInBounds q (.cells (c.setIfInBounds (o + i) u) T fz) } := by
    unfold World.setCell
    congr 1
    apply Array.ext_getElem?
    intro j
    rw [Array.getElem?_modify, Array.getElem?_setIfInBounds]
    by_cases hj : q = j
    ·subst hj; rw [if_pos rfl, if_pos rfl, h, if_pos (Array.getElem?_eq_some_iff.1 h).1]; rfl
    ·rw [if_neg hj, if_neg hj]
   have hst : (store ((⟨q, o, none⟩ : Addr).add i) u).run P w = .ok () { w with heap := w.heap.setIfInBounds q (.cells (c.setIfInBounds (o + i) u) T fz) } := by
    rw [BS, run_store P w _ u _ (h1 u (by simp)), hcell]
    simp only [hfro, Bool.false_eq_true, if_false, hset]
   have hq : q < w.heap.size := (Array.getElem?_eq_some_iff.1 h).1
   have ih := CZ (o := o) us (i + 1) (c.setIfInBounds (o + i) u) { w with heap := w.heap.setIfInBounds q (.cells (c.setIfInBounds (o + i) u) T fz) }
    (by show (w.heap.setIfInBounds q _)[q]? = _; rw [Array.getElem?_setIfInBounds, if_pos rfl, if_pos hq]) (by simp; omega) (by simpa using hf) (fun x hx => h1 x (by simp [hx]))
   simp only [storeCells, Sem.run_bind, hst, Result.andThen_ok, ih]
   congr 2
   rw [Array.setIfInBounds_setIfInBounds]
   rfl
theorem HR.cells (h : HR p φ H w) {b q d : Nat} {cs : List V} (hp : φ b = some (q, d)) (hc : H.cellsAt b = some cs) :
 ∃ c T fz, w.heap[q]? = some (.cells c T fz) ∧ d + cs.length ≤ c.size ∧ (∀ (i : Nat) (v : V), cs[i]? = some v → v.isScal = true ∧ ∃ u, c[d + i]? = some u ∧ VR φ w v u) ∧
  (p.R0 ≤ b → ∀ i, i < c.size → ¬ (fz.1 ≤ i ∧ (i < fz.2 ∨ fz.2 < fz.1))) := h.blk b q d _ hp (AI hc)
theorem HR.map (h : HR p φ H w) {b q d : Nat} {es : List (V × V)} (hp : φ b = some (q, d)) (hc : H.mapAt b = some es) :
 ∃ us clk, w.heap[q]? = some (.map us clk) ∧ EsR φ w es us.toList := h.blk b q d _ hp (CJ hc)
theorem HR.glob (h : HR p φ H w) {g : Nat} {cs : List V} (hg : p.G g = some cs) :
 ∃ c T fz, w.heap[g]? = some (.cells c T fz) ∧ cs.length ≤ c.size ∧ ∀ (i : Nat) (v : V), cs[i]? = some v → v.isScal = true ∧ ∃ u, c[i]? = some u ∧ VR φ w v u := by
 obtain ⟨hl, c, T, fz, hc, hs, hv⟩ := h.glo g cs hg
 exact ⟨c, T, fz, (h.old.block g hl).trans hc, hs, fun i v hi => let ⟨h1, u, hu, r⟩ := hv i v hi; ⟨h1, u, hu, r φ w⟩⟩
theorem Rj {c : Array Value} {d o n : Nat} {cs : List V} (hv : ∀ (i : Nat) (v : V), cs[i]? = some v → v.isScal = true ∧ ∃ u, c[d + i]? = some u ∧ VR φ w v u) (hn : o + n ≤ cs.length) :
 ∃ us : List Value, us.length = n ∧ (∀ i u, us[i]? = some u → c[d + o + i]? = some u) ∧ VRs φ w ((cs.drop o).take n) us ∧ ((cs.drop o).take n).all V.isScal = true := by
 refine ⟨(List.range n).map fun i => (c[d + o + i]?).getD undef, by simp, ?_, ?_, ?_⟩
 ·intro i u hi
  rw [List.getElem?_map] at hi
  by_cases hin : i < n
  ·rw [List.getElem?_range hin] at hi
   injection hi with hi
   dsimp only at hi
   obtain ⟨_, u', hu', _⟩ := hv (o + i) (cs[o + i]'(by omega)) (List.getElem?_eq_getElem _)
   rw [← Nat.add_assoc] at hu'
   rw [hu'] at hi ⊢
   simpa using hi
  ·rw [List.getElem?_eq_none (by simp; omega)] at hi; cases hi
 ·refine An.2 ⟨by simp; omega, fun i v hi => ?_⟩
  rw [List.getElem?_take] at hi
  split at hi
  ·rename_i hin
   rw [List.getElem?_drop] at hi
   obtain ⟨_, u', hu', r⟩ := hv (o + i) v hi
   rw [← Nat.add_assoc] at hu'
   exact ⟨u', by rw [List.getElem?_map, List.getElem?_range hin]; simp [hu'], r⟩
  ·cases hi
 ·rw [List.all_eq_true]
  intro v hvm
  obtain ⟨i, hi⟩ := List.getElem?_of_mem hvm
  rw [List.getElem?_take] at hi
  split at hi
  ·rw [List.getElem?_drop] at hi; exact (hv (o + i) v hi).1
  ·cases hi
def Res (p : Par) (fl : Nat) (φ : Phi) (H : LH) (w : World) (v : V) (H' : LH) (u : Value) (w' : World) : Prop :=
 ∃ φ', VR φ' w' v u ∧ HR p φ' H' w' ∧ Step fl φ H w φ' H' w'
theorem Res.same {fl : Nat} {v : V} {u : Value} (h : HR p φ H w) (hv : VR φ w v u) : Res p fl φ H w v H u w := ⟨φ, hv, h, .refl⟩
theorem Ma {fl : Nat} {g : Bool} {o n q d : Nat} {cs : List V} {c : Array Value} {T t : TypeId} {fz : Nat × Nat} {v : V} {H' : LH} (h : HR p φ H w) (hq : w.heap[q]? = some (.cells c T fz))
 (hv : ∀ (i : Nat) (v : V), cs[i]? = some v → v.isScal = true ∧ ∃ u, c[d + i]? = some u ∧ VR φ w v u) (hg : (isAgg t).run P w = .ok g w) (hn : (sizeOf t).run P w = .ok n w)
 (e : BF H g o n (some cs) = some (v, H')) : ∃ u, (loadVar t ⟨q, d + o, none⟩).run P w = .ok u w ∧ Res p fl φ H w v H' u w := by
 unfold BF at e
 cases g with
 | true =>
   dsimp only at e
   obtain ⟨hl, e⟩ := A6 e
   injection e with e; injection e with e1 e2; subst e1; subst e2
   obtain ⟨us, hul, hus, hr, hs⟩ := Rj hv hl
   have := Fq (P := P) (o := d + o) hq us hus
   rw [hul] at this
   refine ⟨.agg us.toArray, ?_, .same h ?_⟩
   ·simp only [loadVar, Sem.run_bind, hg, Result.andThen_ok, if_true, hn, this]; rfl
   ·simp only [VR]; exact ⟨hs, us, rfl, hr⟩
 | false =>
   dsimp only at e
   split at e
   ·rename_i x hx
    injection e with e; injection e with e1 e2; subst e1; subst e2
    obtain ⟨_, u, hu, r⟩ := hv o x hx
    refine ⟨u, ?_, .same h r⟩
    simp only [loadVar, Sem.run_bind, hg, Result.andThen_ok, Bool.false_eq_true, if_false]
    exact IL hq hu
   ·cases e
theorem My {fl : Nat} {t : TypeId} {a v : V} {ua : Value} {H' : LH} (h : HR p φ H w) (ha : VR φ w a ua) (e : BX p.G H a (ty P t) = some (v, H')) :
 ∃ u, (Instr.loadAt t ua).run P w = .ok u w ∧ Res p fl φ H w v H' u w := by
 unfold BX at e
 split at e
 ·rename_i i hi
  have hg := TF hi w
  have hn := Bi hi w
  unfold Gi at e
  split at e
  ·rename_i b o
   simp only [VR] at ha
   obtain ⟨q, d, hp, rfl⟩ := ha
   cases hc : H.cellsAt b with
   | none => rw [hc] at e; cases e
   | some cs =>
     rw [hc] at e
     obtain ⟨c, T, fz, hq, hl, hv, _⟩ := h.cells hp hc
     obtain ⟨u, hu, r⟩ := Ma (fl := fl) h hq hv hg hn e
     exact ⟨u, by simp only [Instr.loadAt, Instr.sureAddr, Sem.run_bind, Sem.run_pure, Result.andThen_ok]; exact hu, r⟩
  ·rename_i g o
   simp only [VR] at ha
   subst ha
   cases hc : p.G g with
   | none => rw [hc] at e; cases e
   | some cs =>
     rw [hc] at e
     obtain ⟨c, T, fz, hq, hl, hv⟩ := h.glob hc
     obtain ⟨u, hu, r⟩ := Ma (fl := fl) (d := 0) h hq (by simpa using hv) hg hn e
     simp only [Nat.zero_add] at hu
     exact ⟨u, by simp only [Instr.loadAt, Instr.sureAddr, Sem.run_bind, Sem.run_pure, Result.andThen_ok]; exact hu, r⟩
  ·cases e
 ·cases e
theorem CK {fl : Nat} {cs : List V} {us : List Value} (h : HR p φ H w) (T : TypeId) (hR : p.R0 ≤ H.length) (nf : φ H.length = none) (hr : VRs φ w cs us) (hs : cs.all V.isScal = true) (more : List Value) (fz : Nat × Nat)
 (hfz : ∀ i, i < us.length + more.length → ¬ (fz.1 ≤ i ∧ (i < fz.2 ∨ fz.2 < fz.1))) :
 HR p (φ.put H.length w.heap.size 0) (H ++ [.cells cs]) { w with heap := w.heap.push (.cells (us ++ more).toArray T fz) } ∧
  Step fl φ H w (φ.put H.length w.heap.size 0) (H ++ [.cells cs]) { w with heap := w.heap.push (.cells (us ++ more).toArray T fz) } := by
 refine ⟨Tw h nf hR ?_, MF h nf⟩
 obtain ⟨hl, hi⟩ := An.1 hr
 refine ⟨(us ++ more).toArray, T, fz, C3 _ _, by simp; omega, fun i v hv => ⟨ER hs hv, ?_⟩, fun _ i hi' => hfz i (by simpa using hi')⟩
 obtain ⟨u, hu, r⟩ := hi i v hv
 refine ⟨u, ?_, r.mono (Lf h _ nf)⟩
 have : i < us.length := (List.getElem?_eq_some_iff.1 hu).1
 simp [List.getElem?_append_left this, hu]
theorem Cw (φ : Phi) (b q d : Nat) : φ.put b q d b = some (q, d) := by simp [Phi.put]
theorem Qx {fl : Nat} {t : TypeId} {x v : V} {ux : Value} {H' : LH} (h : HR p φ H w) (hR : p.R0 ≤ H.length) (nf : NoFloat φ H H') (hx : VR φ w x ux) (e : ptrV H x = some (v, H')) :
 ∃ u w', (do pure (.pointer (some (← newVar t ux))) : Sem Value).run P w = .ok u w' ∧ Res p fl φ H w v H' u w' := by
 obtain ⟨ht, e⟩ := A6 e
 injection e with e; injection e with e1 e2; subst e1; subst e2
 obtain ⟨hc, hs⟩ := Du hx ht
 obtain ⟨h1, h2⟩ := CK (fl := fl) h t hR nf.new hc hs [] (0, 0) (fun i _ => by simp)
 refine ⟨_, _, rfl, φ.put H.length w.heap.size 0, ?_, ?_, ?_⟩
 ·simp only [VR]; exact ⟨w.heap.size, 0, Cw _ _ _ _, rfl⟩
 ·simpa using h1
 ·simpa using h2
theorem FZ {vs : List V} {us : List Value} (h : VRs φ w vs us) (hs : vs.all V.isScal = true) : ∀ u ∈ us, u.oneCell' = true := by
 obtain ⟨hl, hi⟩ := An.1 h
 intro u hu
 obtain ⟨i, hu⟩ := List.getElem?_of_mem hu
 have hil : i < vs.length := by rw [hl]; exact (List.getElem?_eq_some_iff.1 hu).1
 obtain ⟨u', hu', r⟩ := hi i vs[i] (List.getElem?_eq_getElem hil)
 rw [hu] at hu'; injection hu' with hu'; subst hu'
 exact (OA r (ER hs (List.getElem?_eq_getElem hil))).1
theorem N9 {fl b q d o : Nat} {cs xs : List V} {us : List Value} {c : Array Value} {T : TypeId} {fz : Nat × Nat} (h : HR p φ H w) (hp : φ b = some (q, d)) (hc : H.cellsAt b = some cs) (hfl : fl ≤ b) (hR : p.R0 ≤ fl)
 (hq : w.heap[q]? = some (.cells c T fz)) (hx : VRs φ w xs us) (hs : xs.all V.isScal = true) (ho : o + xs.length ≤ cs.length) :
 HR p φ (H.set b (.cells (Bw cs o xs))) { w with heap := w.heap.setIfInBounds q (.cells (putA c (d + o) us) T fz) } ∧
  Step fl φ H w φ (H.set b (.cells (Bw cs o xs))) { w with heap := w.heap.setIfInBounds q (.cells (putA c (d + o) us) T fz) } := by
 obtain ⟨c', T', fz', hq', hl, hv, hf⟩ := h.cells hp hc
 rw [hq] at hq'; injection hq' with hq'; injection hq' with e1 e2 e3; subst e1; subst e2; subst e3
 obtain ⟨hxl, hxi⟩ := An.1 hx
 refine MV h hp hfl hR (AI hc) (by simp) hq ?_ ?_
 ·intro c1 T1 fz1 e
  injection e with e1 e2 e3; subst e1
  exact ⟨_, _, _, rfl, Cf _ _ _⟩
 ·intro w' hw' he
  refine ⟨putA c (d + o) us, T, fz, by rw [hw', if_pos rfl], by rw [Cf, Cv]; exact hl, ?_, fun hr i hi => hf hr i (by rwa [Cf] at hi)⟩
  intro i v hi
  rw [EB _ _ _ _ ho] at hi
  rw [FJ _ _ _ _ (by omega)]
  by_cases hin : o ≤ i ∧ i < o + xs.length
  ·rw [if_pos hin] at hi
   rw [if_pos (by omega)]
   obtain ⟨u, hu, r⟩ := hxi _ _ hi
   exact ⟨ER hs hi, u, by rw [show d + i - (d + o) = i - o by omega]; exact hu, r.mono he⟩
  ·rw [if_neg hin] at hi
   rw [if_neg (by omega)]
   obtain ⟨h1, u, hu, r⟩ := hv i v hi
   exact ⟨h1, u, hu, r.mono he⟩
theorem R7 {fl : Nat} {t : TypeId} {a x v : V} {ua ux : Value} {H' : LH} (h : HR p φ H w) (hR : p.R0 ≤ fl) (ha : VR φ w a ua) (hx : VR φ w x ux) (e : DP fl H a x (ty P t) = some (v, H')) :
 ∃ w', (Instr.storeAt t ua ux).run P w = .ok () w' ∧ Res p fl φ H w v H' undef w' := by
 unfold DP at e
 split at e
 ·rename_i i hi
  unfold HJ at e
  split at e
  ·rename_i b o
   simp only [VR] at ha
   obtain ⟨q, d, hp, rfl⟩ := ha
   cases hc : H.cellsAt b with
   | none => rw [hc] at e; cases e
   | some cs =>
     rw [hc] at e
     unfold GM at e
     dsimp only at e
     obtain ⟨⟨h1, h2, h3, h4⟩, e⟩ := A6 e
     injection e with e; injection e with e1 e2; subst e1; subst e2
     obtain ⟨hxc, hxs⟩ := Du hx h4
     obtain ⟨c, T, fz, hq, hl, hv, hf⟩ := h.cells hp hc
     have hul : ux.cells.toList.length = i.size := by rw [← (An.1 hxc).1, h1]
     have hfit : d + o + 0 + ux.cells.toList.length ≤ c.size := by omega
     have hst := CZ (P := P) ux.cells.toList 0 c w hq hfit (fun i hi e => hf (by omega) i hi ⟨e.1, .inl e.2⟩) (FZ hxc hxs)
     have ho : o + x.cells.length ≤ cs.length := by omega
     obtain ⟨r1, r2⟩ := N9 h hp hc h3 hR hq hxc hxs ho
     refine ⟨_, ?_, φ, ?_, r1, r2⟩
     ·simp only [Instr.storeAt, Instr.sureAddr, storeVar, Sem.run_bind, Sem.run_pure, Result.andThen_ok, Bi hi, Sem.run_ite]
      rw [if_neg (by simp at hul ⊢; exact hul)]
      exact hst
     ·simp only [VR, VRs]; exact ⟨[], rfl, rfl⟩
  ·cases e
 ·cases e
end
open Go.RowKit (Below)
theorem N3 (a b : ByteArray) : (a.toList == b.toList) = decide (a = b) := by
 rw [ByteArray.toList_eq, ByteArray.toList_eq]
 obtain ⟨⟨x⟩⟩ := a
 obtain ⟨⟨y⟩⟩ := b
 rw [Bool.eq_iff_iff]
 simp
section
variable {P : Program} {p : Par} {φ : Phi} {H : LH} {w : World}
theorem U2 {op : BinOp} {t : TypeId} {ox oy : Operand} {k k' : IntKind} {a b : Int} {v : V} (e : binI op k a k' b = some v) :
 ∃ u, (do eqGuard op t ox oy (.int k a) (.int k' b); binOp op t (.int k a) (.int k' b) : Sem Value).run P w = .ok u w ∧ ∀ φ w, VR φ w v u := by
 have hg : (eqGuard op t ox oy (.int k a) (.int k' b)).run P w = .ok () w := by
  unfold eqGuard; cases op <;> rfl
 simp only [Sem.run_bind, hg, Result.andThen_ok]
 cases op <;> simp only [binI] at e <;> replace e := A6 e <;> obtain ⟨hk, e⟩ := e <;> simp only [binOp]
 case shl => injection e with e; subst e; refine ⟨_, by simp only [Op.shift]; rw [if_neg (by omega)]; rfl, fun _ _ => by simp only [VR]⟩
 case shr => injection e with e; subst e; refine ⟨_, by simp only [Op.shift]; rw [if_neg (by omega)]; rfl, fun _ _ => by simp only [VR]⟩
 case quo => obtain ⟨hk, hb⟩ := hk; subst hk; injection e with e; subst e; refine ⟨_, by rw [if_neg (by simp)]; simp only [Op.intDiv]; rw [if_neg hb]; rfl, fun _ _ => by simp only [VR]⟩
 case rem => obtain ⟨hk, hb⟩ := hk; subst hk; injection e with e; subst e; refine ⟨_, by rw [if_neg (by simp)]; simp only [Op.intDiv]; rw [if_neg hb]; rfl, fun _ _ => by simp only [VR]⟩
 case eql => subst hk; rw [if_neg (by simp)]; injection e with e; subst e; exact ⟨.bool (decide (a = b)), rfl, fun _ _ => by simp only [VR]⟩
 case neq => subst hk; rw [if_neg (by simp)]; injection e with e; subst e; exact ⟨.bool (!decide (a = b)), rfl, fun _ _ => by simp only [VR]⟩
 all_goals
  subst hk
  rw [if_neg (by simp)]
  injection e with e
  subst e
  exact ⟨_, rfl, fun _ _ => by simp only [VR]⟩
theorem U3 {op : BinOp} {t : TypeId} {ox oy : Operand} {a b : ByteArray} {v : V} (e : binS op a b = some v) :
 ∃ u, (do eqGuard op t ox oy (.string a) (.string b); binOp op t (.string a) (.string b) : Sem Value).run P w = .ok u w ∧ ∀ φ w, VR φ w v u := by
 have hg : (eqGuard op t ox oy (.string a) (.string b)).run P w = .ok () w := by
  unfold eqGuard; cases op <;> rfl
 simp only [Sem.run_bind, hg, Result.andThen_ok]
 cases op <;> simp only [binS] at e <;> first | (cases e; done) | skip
 case add =>
  obtain ⟨hk, e⟩ := A6 e
  injection e with e; subst e
  refine ⟨.string (a ++ b), ?_, fun _ _ => by simp only [VR]⟩
  simp only [binOp, Op.stringOp, Sem.run_ite]
  rw [if_neg (by have : IntKind.i64.max = 9223372036854775807 := by decide
                 rw [this]; omega)]
  rfl
 case eql =>
  injection e with e; subst e
  refine ⟨.bool (a.toList == b.toList), by simp only [binOp, Op.stringOp]; rfl, fun _ _ => by simp only [VR, N3]⟩
 case neq =>
  injection e with e; subst e
  refine ⟨.bool (!(a.toList == b.toList)), by simp only [binOp, Op.stringOp]; rfl, fun _ _ => by simp only [VR, N3]⟩
theorem Eo {o : Nat} {f : Field} {fs : List Field} {ks : List Nat} (h : Cs P o (f :: fs) = some ks) :
 ∃ k l, ks = k :: l ∧ f.name ≠ "_" ∧ f.offset = o ∧ Cs P (o + 1) fs = some l ∧
  ((k = 0 ∧ P.underlying f.type = some .bool) ∨ (k = 1 ∧ ∃ j, P.underlying f.type = some (.int j)) ∨ (k = 2 ∧ P.underlying f.type = some .string)) := by
 unfold Cs at h
 split at h
 ·rename_i hc
  simp only [Bool.and_eq_true, bne_iff_ne, ne_eq, beq_iff_eq] at hc
  split at h
  ·rename_i l h1 h2; injection h with h; exact ⟨0, l, h.symm, hc.1, hc.2, h2, .inl ⟨rfl, h1⟩⟩
  ·rename_i j l h1 h2; injection h with h; exact ⟨1, l, h.symm, hc.1, hc.2, h2, .inr (.inl ⟨rfl, j, h1⟩)⟩
  ·rename_i l h1 h2; injection h with h; exact ⟨2, l, h.symm, hc.1, hc.2, h2, .inr (.inr ⟨rfl, h1⟩)⟩
  ·cases h
 ·cases h
theorem VV {t : TypeId} {x y : V} {ux uy : Value} {r : Bool} {k : Nat}
 (ht : (k = 0 ∧ P.underlying t = some .bool) ∨ (k = 1 ∧ ∃ j, P.underlying t = some (.int j)) ∨ (k = 2 ∧ P.underlying t = some .string)) (hk : Sq x = k) (hx : VR φ w x ux) (hy : VR φ w y uy)
 (e : eqS x y = some r) (d : Nat) : (Op.equalIn (d + 1) t ux uy).run P w = .ok r w := by
 unfold eqS at e
 split at e
 ·injection e with e; subst e
  simp only [VR] at hx hy; subst hx; subst hy
  rcases ht with ⟨_, hu⟩ | ⟨h1, _⟩ | ⟨h1, _⟩
  ·exact run_equalIn_bool' w d t _ _ hu
  ·subst h1; cases hk
  ·subst h1; cases hk
 ·obtain ⟨hq, e⟩ := A6 e
  injection e with e; subst e; subst hq
  simp only [VR] at hx hy; subst hx; subst hy
  rcases ht with ⟨h1, _⟩ | ⟨_, j, hu⟩ | ⟨h1, _⟩
  ·subst h1; cases hk
  ·rw [run_equalIn_int w d t _ j _ _ hu]; congr 1
  ·subst h1; cases hk
 ·injection e with e; subst e
  simp only [VR] at hx hy; subst hx; subst hy
  rcases ht with ⟨h1, _⟩ | ⟨h1, _⟩ | ⟨_, hu⟩
  ·subst h1; cases hk
  ·subst h1; cases hk
  ·rw [run_equalIn_string w d t _ _ hu, N3]
 ·cases e
theorem Lm {t : TypeId} {off : Nat} {us : List Value} {u : Value} (ht : (isAgg t).run P w = .ok false w) (h : us[off]? = some u) : (part t ⟨us⟩ off).run P w = .ok u w := by
 simp only [part, Sem.run_bind, ht, Result.andThen_ok, Bool.false_eq_true, if_false]
 have : (⟨us⟩ : Array Value)[off]? = some u := by simpa using h
 rw [this]; rfl
theorem Tn : ∀ {fs : List Field} {o : Nat} {ks : List Nat} {xs ys : List V} {ux uy : List Value} {r : Bool}, Cs P o fs = some ks → eqL ks xs ys = some r →
 (∀ (i : Nat) (v : V), xs[i]? = some v → ∃ u, ux[o + i]? = some u ∧ VR φ w v u) → (∀ (i : Nat) (v : V), ys[i]? = some v → ∃ u, uy[o + i]? = some u ∧ VR φ w v u) →
 ∀ d, (Op.eqFields (d + 1) ⟨ux⟩ ⟨uy⟩ fs).run P w = .ok r w
 | [], o, ks, xs, ys, ux, uy, r, hf, e, _, _, d => by
   injection hf with hf; subst hf
   unfold eqL at e
   split at e <;> first | (injection e with e; subst e; simp [Op.eqFields]; done) | (cases e; done) | (rename_i h _ _; cases h)
 | f :: fs, o, ks, xs, ys, ux, uy, r, hf, e, hx, hy, d => by
   obtain ⟨k, l, rfl, hn, ho, hl, hk⟩ := Eo hf
   cases xs with
   | nil => cases e
   | cons x xs =>
     cases ys with
     | nil => cases e
     | cons y ys =>
       simp only [eqL] at e
       obtain ⟨hkk, e⟩ := A6 e
       cases h1 : eqS x y with
       | none => rw [h1] at e; cases e
       | some b =>
         cases h2 : eqL l xs ys with
         | none => rw [h1, h2] at e; cases e
         | some c =>
           rw [h1, h2] at e; injection e with e; subst e
           obtain ⟨u1, hu1, r1⟩ := hx 0 x rfl
           obtain ⟨u2, hu2, r2⟩ := hy 0 y rfl
           rw [Nat.add_zero] at hu1 hu2
           have hagg : (isAgg f.type).run P w = .ok false w := by
            simp only [isAgg, Sem.run_bind]
            rcases hk with ⟨_, hu⟩ | ⟨_, j, hu⟩ | ⟨_, hu⟩ <;> rw [run_underlying hu] <;> rfl
           have ih := Tn (d := d) hl h2 (fun i v hi => by have := hx (i + 1) v hi; rwa [show o + (i + 1) = o + 1 + i by omega] at this) (fun i v hi => by have := hy (i + 1) v hi; rwa [show o + (i + 1) = o + 1 + i by omega] at this)
           rw [Op.eqFields]
           simp only [if_pos hn, Sem.run_bind, ho, Lm hagg hu1, Lm hagg hu2, VV hk hkk r1 r2 h1 d, Result.andThen_ok]
           cases b
           ·simp
           ·simpa using ih
theorem ND {fs : List Field} : ∀ {o : Nat} {ks : List Nat}, Cs P o fs = some ks → ∀ d, (fs.any fun f => f.name != "_" && P.eqGuardType (d + 1) f.type) = false := by
 induction fs with
 | nil => intro o ks _ d; rfl
 | cons f fs ih =>
   intro o ks h d
   obtain ⟨k, l, _, _, _, hl, hk⟩ := Eo h
   rw [List.any_cons, ih hl d]
   have : P.eqGuardType (d + 1) f.type = false := by
    unfold Program.eqGuardType
    rcases hk with ⟨_, hu⟩ | ⟨_, j, hu⟩ | ⟨_, hu⟩ <;> rw [hu]
   rw [this]; simp
theorem Tm {t : TypeId} {i : TI} {fs : List (Nat × TypeId)} {ks : List Nat} {xs ys : List V} {ux uy : Value} {r : Bool} (hi : ty P t = some i) (hk : i.kind = .struct fs (some ks)) (hx : VR φ w (.agg xs) ux) (hy : VR φ w (.agg ys) uy)
 (e : eqL ks xs ys = some r) (ox oy : Operand) (op : BinOp) : (eqGuard op t ox oy ux uy).run P w = .ok () w ∧ (Op.equal t ux uy).run P w = .ok r w := by
 simp only [VR] at hx hy
 obtain ⟨_, us, rfl, hx⟩ := hx
 obtain ⟨_, vs, rfl, hy⟩ := hy
 obtain ⟨d, h1, h2, h3⟩ := Bc hi w
 rw [h2] at hk
 obtain ⟨gs, rfl, rfl, hfl⟩ := Ku hk
 have hst : P.stoodInHeld t = false := by
  cases hs : P.stoodInHeld t with
  | false => rfl
  | true => rw [hs] at hfl; cases hfl
 rw [hst] at hfl
 simp only [Bool.false_eq_true, if_false] at hfl
 constructor
 ·have hgt : P.eqGuardType P.depth t = false := by
   have : P.depth = (2 * (P.types.size + Made.depth) + 1) + 1 := rfl
   rw [this]
   unfold Program.eqGuardType
   rw [h3]
   have := ND (P := P) hfl.symm (2 * (P.types.size + Made.depth))
   show (gs.any fun f => f.name != "_" && P.eqGuardType (2 * (P.types.size + Made.depth) + 1) f.type) = false
   rw [← Array.any_toList]
   exact this
  unfold eqGuard
  cases op <;> simp [hgt]
 ·have hf : P.fieldsOf t = gs := by simp [Program.fieldsOf, h3]
  unfold Op.equal Op.maxDepth
  rw [run_equalIn_struct (P := P) w 9999 t _ _ (by rw [hf]; exact h3) hst, hf]
  obtain ⟨_, hxi⟩ := An.1 hx
  obtain ⟨_, hyi⟩ := An.1 hy
  exact Tn (d := 9998) hfl.symm e (fun i v hi => by rw [Nat.zero_add]; exact hxi i v hi) (fun i v hi => by rw [Nat.zero_add]; exact hyi i v hi)
theorem Ql {x : V} {u : Value} {r : Bool} (e : nilO x = some r) (hx : VR φ w x u) : ∃ a n c, u = .slice a n c ∧ a.isNone = r := by
 unfold nilO at e
 split at e
 ·injection e with e; subst e
  simp only [VR] at hx; exact ⟨_, _, _, hx, rfl⟩
 ·injection e with e; subst e
  simp only [VR] at hx; obtain ⟨a, hx⟩ := hx; exact ⟨_, _, _, hx, rfl⟩
 ·injection e with e; subst e
  simp only [VR] at hx; obtain ⟨_, q, d, off, c', _, hx, _⟩ := hx; exact ⟨_, _, _, hx, rfl⟩
 ·cases e
theorem SB {t e : TypeId} (d : Nat) (a : Option Addr) (n c : Nat) (h : P.underlying t = some (.slice e)) : (Op.equalIn (d + 1) t (.slice a n c) (.slice none 0 0)).run P w = .ok a.isNone w := by
 cases a <;> simp [Op.equalIn, run_underlying h]
theorem Tx {t e : TypeId} (a : Option Addr) (n c : Nat) (h : P.underlying t = some (.slice e)) : (Op.equal t (.slice a n c) (.slice none 0 0)).run P w = .ok a.isNone w :=
 SB 9999 a n c h
theorem U5 {op : BinOp} {t : TypeId} {ox oy : Operand} {x y v : V} {ux uy : Value} (hx : VR φ w x ux) (hy : VR φ w y uy) (e : binV (ty P) op t x y = some v) :
 ∃ u, (do eqGuard op t ox oy ux uy; binOp op t ux uy : Sem Value).run P w = .ok u w ∧ ∀ φ w, VR φ w v u := by
 unfold binV at e
 split at e
 ·simp only [VR] at hx hy; subst hx; subst hy; exact U2 e
 ·simp only [VR] at hx hy; subst hx; subst hy; exact U3 e
 ·simp only [VR] at hx hy; subst hx; subst hy
  rename_i a b
  split at e
  ·rename_i s bt z hi
   injection e with e; subst e
   obtain ⟨d, h1, h2, h3⟩ := Bc hi w
   have := Rd h2.symm; subst this
   refine ⟨.bool (a == b), ?_, fun _ _ => by simp only [VR]⟩
   have hg : (eqGuard .eql t ox oy (.bool a) (.bool b)).run P w = .ok () w := rfl
   simp only [Sem.run_bind, hg, Result.andThen_ok, binOp, Op.equal, Op.maxDepth, run_equalIn_bool' w 9999 t a b h3, Sem.run_pure]
  ·rename_i s bt z hi
   injection e with e; subst e
   obtain ⟨d, h1, h2, h3⟩ := Bc hi w
   have := Rd h2.symm; subst this
   refine ⟨.bool (!(a == b)), ?_, fun _ _ => by simp only [VR]⟩
   have hg : (eqGuard .neq t ox oy (.bool a) (.bool b)).run P w = .ok () w := rfl
   simp only [Sem.run_bind, hg, Result.andThen_ok, binOp, Op.equal, Op.maxDepth, run_equalIn_bool' w 9999 t a b h3, Sem.run_pure]
  ·cases e
 ·rename_i a b
  split at e
  ·rename_i s bt fs ks z hi
   unfold yesO at e
   split at e
   ·rename_i r he
    injection e with e; subst e
    obtain ⟨hg, hq⟩ := Tm hi rfl hx hy he ox oy .eql
    simp only [VR] at hx hy
    obtain ⟨_, us, rfl, _⟩ := hx
    obtain ⟨_, vs, rfl, _⟩ := hy
    refine ⟨.bool r, ?_, fun _ _ => by simp only [VR]⟩
    simp only [Sem.run_bind, hg, Result.andThen_ok, binOp, hq, Sem.run_pure]
   ·cases e
  ·rename_i s bt fs ks z hi
   unfold notO at e
   split at e
   ·rename_i r he
    injection e with e; subst e
    obtain ⟨hg, hq⟩ := Tm hi rfl hx hy he ox oy .neq
    simp only [VR] at hx hy
    obtain ⟨_, us, rfl, _⟩ := hx
    obtain ⟨_, vs, rfl, _⟩ := hy
    refine ⟨.bool (!r), ?_, fun _ _ => by simp only [VR]⟩
    simp only [Sem.run_bind, hg, Result.andThen_ok, binOp, hq, Sem.run_pure]
   ·cases e
  ·cases e
 ·rename_i a
  simp only [VR] at hy; subst hy
  split at e
  ·rename_i s bt el z hi
   obtain ⟨d, h1, h2, h3⟩ := Bc hi w
   have := FR h2.symm; subst this
   unfold yesO at e
   split at e
   ·rename_i r he
    injection e with e; subst e
    obtain ⟨a, n, c, rfl, hr⟩ := Ql he hx
    refine ⟨.bool r, ?_, fun _ _ => by simp only [VR]⟩
    have hg : (eqGuard .eql t ox oy (.slice a n c) (.slice none 0 0)).run P w = .ok () w := rfl
    simp only [Sem.run_bind, hg, Result.andThen_ok, binOp, Tx a n c h3, Sem.run_pure, hr]
   ·cases e
  ·rename_i s bt el z hi
   obtain ⟨d, h1, h2, h3⟩ := Bc hi w
   have := FR h2.symm; subst this
   unfold notO at e
   split at e
   ·rename_i r he
    injection e with e; subst e
    obtain ⟨a, n, c, rfl, hr⟩ := Ql he hx
    refine ⟨.bool (!r), ?_, fun _ _ => by simp only [VR]⟩
    have hg : (eqGuard .neq t ox oy (.slice a n c) (.slice none 0 0)).run P w = .ok () w := rfl
    simp only [Sem.run_bind, hg, Result.andThen_ok, binOp, Tx a n c h3, Sem.run_pure, hr]
   ·cases e
  ·cases e
 ·cases e
theorem WB {op : UnOp} {x v : V} {ux : Value} (hx : VR φ w x ux) (e : unV op x = some v) : ∃ u, (Op.unary op ux).run P w = .ok u w ∧ ∀ φ w, VR φ w v u := by
 unfold unV at e
 split at e
 ·simp only [VR] at hx; subst hx
  split at e
  ·injection e with e; subst e; exact ⟨_, rfl, fun _ _ => by simp only [VR]⟩
  ·cases e
 ·simp only [VR] at hx; subst hx
  split at e
  ·injection e with e; subst e; exact ⟨_, rfl, fun _ _ => by simp only [VR]⟩
  ·cases e
 ·cases e
end
open Go.RowKit (Below)
section
variable {P : Program} {p : Par} {φ : Phi} {H : LH} {w : World}
theorem DI {x : Option TI} {n : Nat} (h : AC x = some n) : ∃ i, x = some i ∧ i.size = n := by
 cases x with
 | none => cases h
 | some i => injection h with h; exact ⟨i, rfl, h⟩
theorem C0 {t : TypeId} {i : TI} (h : Av (ty P) t = some i) : ∃ e, P.underlying t = some (.slice e) ∧ ty P e = some i := by
 unfold Av at h
 split at h
 ·rename_i s b e z hi
  obtain ⟨d, _, h2, h3⟩ := Bc hi (default : World)
  have := FR h2.symm; subst this
  exact ⟨e, h3, h⟩
 ·cases h
theorem FD {t : TypeId} {s b n : Nat} {e : TypeId} {z : Option V} (h : ty P t = some ⟨s, b, .array n e, z⟩) : P.underlying t = some (.array n e) := by
 obtain ⟨d, _, h2, h3⟩ := Bc h (default : World)
 have := SX h2.symm; subst this
 exact h3
theorem AT {t : TypeId} {s b : Nat} {z : Option V} (h : ty P t = some ⟨s, b, .str, z⟩) : P.underlying t = some .string := by
 obtain ⟨d, _, h2, h3⟩ := Bc h (default : World)
 have := Wz h2.symm; subst this
 exact h3
theorem B1 {t : TypeId} {s b : Nat} {k : IntKind} {z : Option V} (h : ty P t = some ⟨s, b, .int k, z⟩) : P.underlying t = some (.int k) := by
 obtain ⟨d, _, h2, h3⟩ := Bc h (default : World)
 have := Wx h2.symm; subst this
 exact h3
theorem Az {t : TypeId} {s b : Nat} {e : TypeId} {z : Option V} (h : ty P t = some ⟨s, b, .slice e, z⟩) : P.underlying t = some (.slice e) := by
 obtain ⟨d, _, h2, h3⟩ := Bc h (default : World)
 have := FR h2.symm; subst this
 exact h3
theorem map_some {t : TypeId} {s b : Nat} {k e : TypeId} {z : Option V} (h : ty P t = some ⟨s, b, .map k e, z⟩) : P.underlying t = some (.map k e) := by
 obtain ⟨d, _, h2, h3⟩ := Bc h (default : World)
 have := Wy h2.symm; subst this
 exact h3
theorem Cm {t : TypeId} {s b : Nat} {fs : List (Nat × TypeId)} {fl : Option (List Nat)} {z : Option V} (h : ty P t = some ⟨s, b, .struct fs fl, z⟩) :
 ∃ gs : Array Field, P.underlying t = some (.struct gs) ∧ fs = gs.toList.map (fun f => (f.offset, f.type)) := by
 obtain ⟨d, _, h2, h3⟩ := Bc h (default : World)
 obtain ⟨gs, rfl, h4, _⟩ := Ku h2.symm
 exact ⟨gs, h3, h4⟩
theorem Ps {t : TypeId} {f : Nat} {x v : V} {ux : Value} (hx : VR φ w x ux) (e : Hl (ty P) t f x = some v) :
 ∃ u, (Instr.fieldAt t ux f).run P w = .ok u w ∧ VR φ w v u := by
 unfold Hl at e
 split at e
 ·rename_i s b fs fl z hi
  obtain ⟨gs, hu, rfl⟩ := Cm hi
  unfold Qu at e
  cases hg : gs[f]? with
  | none => simp [hg] at e
  | some g =>
    have : (List.map (fun f : Field => (f.offset, f.type)) gs.toList)[f]? = some (g.offset, g.type) := by simp [hg]
    rw [this] at e
    dsimp only at e
    cases hT : ty P g.type with
    | none => rw [hT] at e; cases e
    | some i =>
      rw [hT] at e
      dsimp only at e
      obtain ⟨hn, e⟩ := A6 e
      have hsz := Bi hT w
      have hne : ¬ i.size = 0 := by omega
      unfold addO at e
      split at e
      ·injection e with e; subst e
       simp only [VR] at hx ⊢
       obtain ⟨q, d, hp, rfl⟩ := hx
       refine ⟨_, ?_, q, d, hp, rfl⟩
       simp only [Instr.fieldAt, Sem.run_bind, run_underlying hu, Result.andThen_ok, hg, Instr.sureAddr, Sem.run_pure, fieldPlace, hsz, if_neg hne, BS, Nat.add_assoc]
      ·injection e with e; subst e
       simp only [VR] at hx ⊢
       subst hx
       refine ⟨_, ?_, rfl⟩
       simp only [Instr.fieldAt, Sem.run_bind, run_underlying hu, Result.andThen_ok, hg, Instr.sureAddr, Sem.run_pure, fieldPlace, hsz, if_neg hne, BS]
      ·cases e
 ·cases e
theorem ML {ft : TypeId} {cs : List V} {us : List Value} {off : Nat} {v : V} (hs : cs.all V.isScal = true) (hc : VRs φ w cs us) (e : Ll cs off (ty P ft) = some v) :
 ∃ u, (part ft ⟨us⟩ off).run P w = .ok u w ∧ VR φ w v u := by
 unfold Ll at e
 split at e
 ·rename_i i hi
  have hg := TF hi w
  obtain ⟨hl, hci⟩ := An.1 hc
  split at e
  ·rename_i hk
   obtain ⟨hle, e⟩ := A6 e
   injection e with e; subst e
   refine ⟨.agg ((⟨us⟩ : Array Value).extract off (off + i.size)), ?_, ?_⟩
   ·simp only [part, Sem.run_bind, hg, hk, Result.andThen_ok, if_true, Bi hi, Sem.run_pure]
   ·simp only [VR]
    refine ⟨?_, (us.drop off).take i.size, ?_, ?_⟩
    ·rw [List.all_eq_true]
     intro x hx
     exact List.all_eq_true.1 hs x (List.mem_of_mem_drop (List.mem_of_mem_take hx))
    ·congr 1; simp [List.extract]
    ·refine An.2 ⟨by simp [hl], fun j x hj => ?_⟩
     rw [List.getElem?_take] at hj ⊢
     split at hj
     ·rename_i hjn
      rw [if_pos hjn]
      rw [List.getElem?_drop] at hj ⊢
      exact hci _ _ hj
     ·cases hj
  ·rename_i hk
   obtain ⟨u, hu, r⟩ := hci off v e
   exact ⟨u, Lm (by rw [hg, hk]) hu, r⟩
 ·cases e
theorem Pt {t : TypeId} {f : Nat} {x v : V} {ux : Value} (hx : VR φ w x ux) (e : Hm (ty P) t f x = some v) :
 ∃ u, (Instr.field t ux f).run P w = .ok u w ∧ VR φ w v u := by
 unfold Hm at e
 split at e
 ·rename_i cs
  simp only [VR] at hx
  obtain ⟨hs, us, rfl, hc⟩ := hx
  split at e
  ·rename_i s b fs fl z hi
   obtain ⟨gs, hu, rfl⟩ := Cm hi
   cases hg : gs[f]? with
   | none => simp [hg] at e
   | some g =>
     have : (List.map (fun f : Field => (f.offset, f.type)) gs.toList)[f]? = some (g.offset, g.type) := by simp [hg]
     rw [this] at e
     obtain ⟨u, hu', r⟩ := ML hs hc e
     refine ⟨u, ?_, r⟩
     simp only [Instr.field, Sem.run_bind, run_underlying hu, Result.andThen_ok, hg, asAgg, Sem.run_pure]
     exact hu'
  ·cases e
 ·cases e
theorem PX {t : TypeId} {x n v : V} {ux un : Value} (hx : VR φ w x ux) (hn : VR φ w n un) (e : DN (ty P) t x n = some v) :
 ∃ u, (Instr.indexAt t ux un).run P w = .ok u w ∧ VR φ w v u := by
 have key : ∀ {b o len z : Nat} {m : Int} {q d : Nat} {e : TypeId}, P.underlying t = some (.array len e) → (sizeOf e).run P w = .ok z w → 0 ≤ m ∧ m < (len : Int) → ∀ {k : IntKind} (a : Addr),
  (Instr.indexAt t (.pointer (some a)) (.int k m)).run P w = .ok (.pointer (some (a.add (m.toNat * z)))) w := by
  intro b o len z m q d e hu hz hm k a
  simp only [Instr.indexAt, asIntOf, Sem.run_bind, Sem.run_pure, Result.andThen_ok, run_underlying hu, Instr.sureAddr, if_pos hm, hz]
 unfold DN at e
 split at e
 ·rename_i b o z len c k m
  obtain ⟨hz, e⟩ := A6 e
  obtain ⟨hm, e⟩ := A6 e
  injection e with e; subst e
  obtain ⟨i, hi, hz⟩ := DI hz
  obtain ⟨el, hu, hT⟩ := C0 hi
  simp only [VR] at hx hn ⊢
  subst hn
  obtain ⟨hnc, q, d, off, c', hp, rfl, hc, ho, _⟩ := hx
  have hoff : off = d + o := by rcases ho with h | h <;> omega
  subst hoff
  refine ⟨_, ?_, q, d, hp, rfl⟩
  simp only [Instr.indexAt, asIntOf, Sem.run_bind, Sem.run_pure, Result.andThen_ok, run_underlying hu, if_pos hm, Bi hT, hz, BS, Nat.add_assoc]
 ·rename_i b o k m
  simp only [VR] at hx hn
  subst hn
  obtain ⟨q, d, hp, rfl⟩ := hx
  split at e
  ·rename_i s by' len el z hi
   unfold atO at e
   split at e
   ·rename_i sz hsz
    obtain ⟨hm, e⟩ := A6 e
    injection e with e; subst e
    obtain ⟨i, hT, rfl⟩ := DI hsz
    refine ⟨_, key (b := 0) (o := 0) (q := 0) (d := 0) (FD hi) (Bi hT w) hm _, ?_⟩
    simp only [VR, BS, Nat.add_assoc]
    exact ⟨q, d, hp, rfl⟩
   ·cases e
  ·cases e
 ·rename_i b o k m
  simp only [VR] at hx hn
  subst hn; subst hx
  split at e
  ·rename_i s by' len el z hi
   unfold atO at e
   split at e
   ·rename_i sz hsz
    obtain ⟨hm, e⟩ := A6 e
    injection e with e; subst e
    obtain ⟨i, hT, rfl⟩ := DI hsz
    refine ⟨_, key (b := 0) (o := 0) (q := 0) (d := 0) (FD hi) (Bi hT w) hm _, ?_⟩
    simp only [VR, BS]
   ·cases e
  ·cases e
 ·cases e
theorem PZ {t : TypeId} {x n v : V} {ux un : Value} (hx : VR φ w x ux) (hn : VR φ w n un) (e : Hp (ty P) t x n = some v) :
 ∃ u, (Instr.index t ux un).run P w = .ok u w ∧ VR φ w v u := by
 unfold Hp at e
 split at e
 ·rename_i s k m
  simp only [VR] at hx hn
  subst hn; subst hx
  split at e
  ·rename_i sz by' z hi
   obtain ⟨hm, e⟩ := A6 e
   injection e with e; subst e
   have hlt : m.toNat < s.size := by omega
   refine ⟨.int .u8 (s[m.toNat]).toNat, ?_, ?_⟩
   ·have : s[m.toNat]? = some s[m.toNat] := getElem?_pos s m.toNat hlt
    simp only [Instr.index, asIntOf, Sem.run_bind, Sem.run_pure, Result.andThen_ok, run_underlying (AT hi), if_pos hm.1, this]
   ·simp only [Nm, VR]
    congr 2
    have hl : m.toNat < s.data.toList.length := by simpa using hlt
    rw [List.getD_eq_getElem?_getD, List.getElem?_eq_getElem hl]
    simp only [Option.getD_some]
    congr 1
  ·cases e
 ·rename_i cs k m
  simp only [VR] at hx hn
  subst hn
  obtain ⟨hs, us, rfl, hc⟩ := hx
  split at e
  ·rename_i sz by' len el z hi
   split at e
   ·rename_i i hT
    obtain ⟨hm, e⟩ := A6 e
    rw [← hT] at e
    obtain ⟨u, hu, r⟩ := ML hs hc e
    refine ⟨u, ?_, r⟩
    simp only [Instr.index, asIntOf, Sem.run_bind, Sem.run_pure, Result.andThen_ok, run_underlying (FD hi), if_pos hm, Bi hT]
    exact hu
   ·cases e
  ·cases e
 ·cases e
theorem C5 {x : V} {ux : Value} {y n : Nat} (hx : VR φ w x ux) (e : Ja x y = some n) : ∃ k i, ux = .int k i ∧ 0 ≤ i ∧ n = i.toNat ∧ n ≤ y := by
 unfold Ja at e
 split at e
 ·obtain ⟨h, e⟩ := A6 e
  injection e with e; subst e
  simp only [VR] at hx
  exact ⟨_, _, hx, h.1, rfl, by omega⟩
 ·cases e
theorem EG {k : IntKind} {i : Int} {y : Nat} {code : BoundsCode} (h : 0 ≤ i ∧ i ≤ (y : Int)) : (Instr.sliceBound (.int k i) y code).run P w = .ok i.toNat w := by
 simp only [Instr.sliceBound, asIntOf, Sem.run_bind, Sem.run_pure, Result.andThen_ok, if_pos h]
theorem Ef {isS : Bool} {len cap' : Nat} {lo hi : Option V} {ulo uhi : Option Value} {c h l : Nat} (hlo : ∀ v, lo = some v → ∃ u, ulo = some u ∧ VR φ w v u) (hlo' : lo = none → ulo = none)
 (hhi : ∀ v, hi = some v → ∃ u, uhi = some u ∧ VR φ w v u) (hhi' : hi = none → uhi = none) (hc : c ≤ cap') (e1 : hiV len c hi = some h) (e2 : hiV 0 c lo = some l) (hlh : l ≤ h) :
 (Instr.sliceBounds isS len cap' ulo uhi none).run P w = .ok (l, h, cap') w := by
 have A : (uhi = none ∧ h = len) ∨ ∃ k i, uhi = some (.int k i) ∧ (0 ≤ i ∧ i ≤ (cap' : Int)) ∧ h = i.toNat := by
  cases hi with
  | none => injection e1 with e1; exact .inl ⟨hhi' rfl, e1.symm⟩
  | some v =>
    obtain ⟨u, hu, r⟩ := hhi v rfl
    obtain ⟨k, i, rfl, h0, h1, h2⟩ := C5 r e1
    exact .inr ⟨k, i, hu, ⟨h0, by omega⟩, h1⟩
 have B : (ulo = none ∧ l = 0) ∨ ∃ k i, ulo = some (.int k i) ∧ (0 ≤ i ∧ i ≤ (h : Int)) ∧ l = i.toNat := by
  cases lo with
  | none => injection e2 with e2; exact .inl ⟨hlo' rfl, e2.symm⟩
  | some v =>
    obtain ⟨u, hu, r⟩ := hlo v rfl
    obtain ⟨k, i, rfl, h0, h1, h2⟩ := C5 r e2
    exact .inr ⟨k, i, hu, ⟨h0, by omega⟩, h1⟩
 rcases A with ⟨rfl, rfl⟩ | ⟨k, i, rfl, hi', rfl⟩
 ·rcases B with ⟨rfl, rfl⟩ | ⟨k, i, rfl, hi', rfl⟩
  ·simp only [Instr.sliceBounds, Sem.run_bind, Sem.run_pure, Result.andThen_ok]
  ·simp only [Instr.sliceBounds, Sem.run_bind, Sem.run_pure, Result.andThen_ok, EG hi']
 ·rcases B with ⟨rfl, rfl⟩ | ⟨k', i', rfl, hi'', rfl⟩
  ·simp only [Instr.sliceBounds, Sem.run_bind, Sem.run_pure, Result.andThen_ok, EG hi']
  ·simp only [Instr.sliceBounds, Sem.run_bind, Sem.run_pure, Result.andThen_ok, EG hi', EG hi'']
theorem EM {t : TypeId} {x v : V} {ux : Value} {lo hi : Option V} {ulo uhi : Option Value} (hlo : ∀ v, lo = some v → ∃ u, ulo = some u ∧ VR φ w v u) (hlo' : lo = none → ulo = none)
 (hhi : ∀ v, hi = some v → ∃ u, uhi = some u ∧ VR φ w v u) (hhi' : hi = none → uhi = none) (hx : VR φ w x ux) (hk : Bh (ty P) t x = true) (e : BN x lo hi = some v) :
 ∃ u, (Instr.sliceAt t ux ulo uhi none).run P w = .ok u w ∧ VR φ w v u := by
 unfold BN at e
 unfold Bh at hk
 split at e
 ·rename_i s
  simp only [VR] at hx; subst hx
  dsimp only at hk
  split at hk
  ·rename_i sz by' z hi'
   unfold cutS at e
   split at e
   ·rename_i h l e1 e2
    obtain ⟨hlh, e⟩ := A6 e
    injection e with e; subst e
    have hb := Ef (P := P) (isS := false) hlo hlo' hhi hhi' (Nat.le_refl _) e1 e2 hlh
    refine ⟨.string (s.extract l h), ?_, by simp only [VR]⟩
    simp only [Instr.sliceAt, Instr.slice, Sem.run_bind, run_underlying (AT hi'), Result.andThen_ok]
    simp only [Option.isSome_none, Bool.false_eq_true, if_false, Sem.run_bind, Sem.run_pure, Result.andThen_ok, hb]
   ·cases e
  ·cases hk
 ·rename_i b o z n c
  dsimp only at hk
  have hk := beq_iff_eq.1 hk
  obtain ⟨i, hi', hz⟩ := DI hk
  obtain ⟨el, hu, hT⟩ := C0 hi'
  simp only [VR] at hx
  obtain ⟨hnc, q, d, off, c', hp, rfl, hc, ho, hr⟩ := hx
  unfold cutL at e
  split at e
  ·rename_i h l e1 e2
   obtain ⟨hlh, e⟩ := A6 e
   injection e with e; subst e
   have hb := Ef (P := P) (isS := true) hlo hlo' hhi hhi' hc e1 e2 hlh
   have hhc : h ≤ c := by
    cases hi with
    | none => injection e1 with e1; omega
    | some v => obtain ⟨u, _, r⟩ := hhi v rfl; obtain ⟨_, _, _, _, _, h5⟩ := C5 r e1; exact h5
   refine ⟨.slice (if c' = l then some ⟨q, off, none⟩ else some ⟨q, off + l * z, none⟩) (h - l) (c' - l), ?_, ?_⟩
   ·simp only [Instr.sliceAt, Instr.slice, Sem.run_bind, run_underlying hu, Result.andThen_ok, hb, Bi hT, hz, Sem.run_pure, Option.map_some, BS]
   ·simp only [VR]
    refine ⟨by omega, q, d, if c' = l then off else off + l * z, c' - l, hp, ?_, by omega, ?_, ?_⟩
    ·split <;> rfl
    ·split
     ·right; omega
     ·left; rcases ho with ho | ho
      ·omega
      ·omega
    ·obtain ⟨cc, T, fz, hq, hle⟩ := hr
     refine ⟨cc, T, fz, hq, ?_⟩
     split
     ·rename_i hcl
      subst hcl
      simp only [Nat.sub_self, Nat.zero_mul]
      have := Nat.zero_le (c' * z)
      omega
     ·have : l * z + (c' - l) * z = c' * z := by rw [← Nat.add_mul]; congr 1; omega
      omega
  ·cases e
 ·simp only [VR] at hx; subst hx
  dsimp only at hk
  obtain ⟨i, hi'⟩ := Option.isSome_iff_exists.1 hk
  obtain ⟨el, hu, hT⟩ := C0 hi'
  unfold cutN at e
  split at e
  ·rename_i h l e1 e2
   injection e with e; subst e
   have hh : h = 0 := by
    cases hi with
    | none => injection e1 with e1; omega
    | some v => obtain ⟨u, _, r⟩ := hhi v rfl; obtain ⟨_, _, _, _, _, h5⟩ := C5 r e1; omega
   have hl : l = 0 := by
    cases lo with
    | none => injection e2 with e2; omega
    | some v => obtain ⟨u, _, r⟩ := hlo v rfl; obtain ⟨_, _, _, _, _, h5⟩ := C5 r e2; omega
   subst hh; subst hl
   have hb := Ef (P := P) (isS := true) hlo hlo' hhi hhi' (Nat.le_refl _) e1 e2 (Nat.le_refl _)
   refine ⟨.slice none 0 0, ?_, by simp only [VR]⟩
   simp only [Instr.sliceAt, Instr.slice, Sem.run_bind, run_underlying hu, Result.andThen_ok, hb, Bi hT, Sem.run_pure, if_true]
  ·cases e
 ·simp only [VR] at hx; obtain ⟨a, rfl⟩ := hx
  dsimp only at hk
  obtain ⟨i, hi'⟩ := Option.isSome_iff_exists.1 hk
  obtain ⟨el, hu, hT⟩ := C0 hi'
  unfold cutE at e
  split at e
  ·rename_i h l e1 e2
   injection e with e; subst e
   have hh : h = 0 := by
    cases hi with
    | none => injection e1 with e1; omega
    | some v => obtain ⟨u, _, r⟩ := hhi v rfl; obtain ⟨_, _, _, _, _, h5⟩ := C5 r e1; omega
   have hl : l = 0 := by
    cases lo with
    | none => injection e2 with e2; omega
    | some v => obtain ⟨u, _, r⟩ := hlo v rfl; obtain ⟨_, _, _, _, _, h5⟩ := C5 r e2; omega
   subst hh; subst hl
   have hb := Ef (P := P) (isS := true) hlo hlo' hhi hhi' (Nat.le_refl _) e1 e2 (Nat.le_refl _)
   refine ⟨.slice (some a) 0 0, ?_, by simp only [VR]; exact ⟨a, rfl⟩⟩
   simp only [Instr.sliceAt, Instr.slice, Sem.run_bind, run_underlying hu, Result.andThen_ok, hb, Bi hT, Sem.run_pure, if_true, Option.map_some, Nat.sub_self]
  ·cases e
 ·cases e
end
open Go.RowKit (Below)
section
variable {P : Program} {p : Par} {φ : Phi} {H : LH} {w : World}
theorem Jb (s : ByteArray) : VRs φ w (D6 s) (s.data.toList.map fun b => .int .u8 b.toNat) ∧ (D6 s).all V.isScal = true := by
 constructor
 ·refine An.2 ⟨by simp [D6], fun i v hi => ?_⟩
  simp only [D6, List.getElem?_map, Option.map_eq_some_iff] at hi ⊢
  obtain ⟨b, hb, rfl⟩ := hi
  exact ⟨_, ⟨b, hb, rfl⟩, by simp only [VR]⟩
 ·rw [List.all_eq_true]
  intro v hv
  simp only [D6, List.mem_map] at hv
  obtain ⟨b, _, rfl⟩ := hv
  rfl
theorem HM : ∀ {cs : List V} {us : List Value} {l : List UInt8}, VRs φ w cs us → E7 cs = some l → ∃ ns : List Int, us = ns.map (Value.int .u8) ∧ l = ns.map fun n => UInt8.ofNat n.toNat
 | [], us, l, h, e => by
   simp only [VRs] at h; subst h
   injection e with e; subst e
   exact ⟨[], rfl, rfl⟩
 | v :: cs, us, l, h, e => by
   simp only [VRs] at h
   obtain ⟨u, us', rfl, hv, hs⟩ := h
   unfold E7 at e
   split at e
   ·rename_i h1; cases h1
   ·rename_i n cs' h1
    injection h1 with h1 h2; subst h1; subst h2
    split at e
    ·rename_i l' hl
     injection e with e; subst e
     obtain ⟨ns, rfl, rfl⟩ := HM hs hl
     simp only [VR] at hv; subst hv
     exact ⟨n :: ns, rfl, rfl⟩
    ·cases e
   ·cases e
theorem PE (ns : List Int) : ∀ (s : ByteArray), ns.foldl (fun r n => r.push (UInt8.ofNat n.toNat)) s = ⟨(s.data.toList ++ ns.map fun n => UInt8.ofNat n.toNat).toArray⟩ := by
 induction ns with
 | nil => intro s; simp
 | cons n ns ih =>
   intro s
   rw [List.foldl_cons, ih]
   congr 1
   simp [ByteArray.push]
theorem IT {b o z n c : Nat} {ux : Value} {cs : List V} (h : HR p φ H w) (hx : VR φ w (.sl b o z n c) ux) (e : AW H (.sl b o z n c) = some cs) :
 ∃ q off c' us, ux = .slice (some ⟨q, off, none⟩) n c' ∧ us.length = n * z ∧ VRs φ w cs us ∧ cs.all V.isScal = true ∧ ∀ k, (loadCells ⟨q, off, none⟩ (n * z)).run P { w with drawn := k } = .ok us.toArray { w with drawn := k } := by
 simp only [VR] at hx
 obtain ⟨hnc, q, d, off, c', hp, rfl, hc, ho, hr⟩ := hx
 unfold AW at e
 dsimp only at e
 unfold Fh at e
 cases hb : H.cellsAt b with
 | none => rw [hb] at e; cases e
 | some bs =>
   rw [hb] at e
   obtain ⟨hl, e⟩ := A6 e
   injection e with e; subst e
   obtain ⟨cc, T, fz, hq, hle, hv, _⟩ := h.cells hp hb
   obtain ⟨us, hul, hus, hrs, hss⟩ := Rj hv hl
   refine ⟨q, off, c', us, rfl, hul, hrs, hss, fun k => ?_⟩
   rcases ho with ho | ho
   ·subst ho
    have := Fq (P := P) (w := { w with drawn := k }) (o := d + o) hq us hus
    rw [hul] at this
    exact this
   ·have hn0 : n = 0 := by omega
    subst hn0
    simp only [Nat.zero_mul] at hul ⊢
    have : us = [] := List.eq_nil_of_length_eq_zero hul
    subst this
    rfl
theorem Ext.dr (k : Nat) : Ext φ w φ { w with drawn := k } := ⟨fun _ _ h => h, fun _ _ h => h⟩
theorem RN {fl : Nat} {s d : TypeId} {x v : V} {ux : Value} {H' : LH} (h : HR p φ H w) (hR : p.R0 ≤ H.length) (nf : NoFloat φ H H') (hx : VR φ w x ux) (hR2 : p.R0 ≤ fl) (e : DJ (ty P) fl H s d x = some (v, H')) :
 ∃ u w', (convert s d ux).run P w = .ok u w' ∧ Res p fl φ H w v H' u w' := by
 unfold DJ at e
 split at e
 ·rename_i s1 b1 k1 z1 s2 b2 k2 z2 hs hd
  split at e
  ·rename_i k n
   injection e with e; injection e with e1 e2; subst e1; subst e2
   simp only [VR] at hx; subst hx
   refine ⟨.int k2 (k2.wrap n), w, ?_, .same h (by simp only [VR])⟩
   simp [convert, run_underlying (B1 hs), run_underlying (B1 hd), Conv.intToInt]
  ·cases e
 ·rename_i s1 b1 k1 z1 s2 b2 z2 hs hd
  split at e
  ·rename_i k n
   injection e with e; injection e with e1 e2; subst e1; subst e2
   simp only [VR] at hx; subst hx
   refine ⟨.string (Utf8.encode n), w, ?_, .same h (by simp only [VR])⟩
   simp [convert, run_underlying (B1 hs), run_underlying (AT hd), Conv.intToString]
  ·cases e
 ·rename_i s1 b1 el z1 s2 b2 z2 hs hd
  split at e
  ·rename_i s3 b3 z3 b o z n c he
   obtain ⟨hz, e⟩ := A6 e
   subst hz
   unfold He at e
   split at e
   ·rename_i cs hcs
    unfold strO at e
    split at e
    ·rename_i l hl
     injection e with e; injection e with e1 e2; subst e1; subst e2
     obtain ⟨q, off, c', us, rfl, hul, hrs, _, hld⟩ := IT (P := P) h hx hcs
     obtain ⟨ns, rfl, rfl⟩ := HM hrs hl
     have hld := hld w.drawn
     rw [Nat.mul_one] at hld
     refine ⟨_, w, ?_, .same h (u := .string ⟨(ns.map fun n => UInt8.ofNat n.toNat).toArray⟩) (by simp only [VR])⟩
     rw [run_convert_bytes_string w s d el _ _ _ (Az hs) (B1 he) (AT hd), run_bytesToString w _ _ _ ns hld, PE]
     rfl
    ·cases e
   ·cases e
  ·rename_i s3 b3 z3 he
   injection e with e; injection e with e1 e2; subst e1; subst e2
   simp only [VR] at hx; subst hx
   refine ⟨.string .empty, w, ?_, .same h (by simp only [VR]; rfl)⟩
   rw [run_convert_bytes_string w s d el _ _ _ (Az hs) (B1 he) (AT hd)]
   rfl
  ·rename_i s3 b3 z3 he
   injection e with e; injection e with e1 e2; subst e1; subst e2
   simp only [VR] at hx; obtain ⟨a, rfl⟩ := hx
   refine ⟨.string .empty, w, ?_, .same h (by simp only [VR]; rfl)⟩
   rw [run_convert_bytes_string w s d el _ _ _ (Az hs) (B1 he) (AT hd)]
   rfl
  ·cases e
 ·rename_i s1 b1 z1 s2 b2 el z2 hs hd
  split at e
  ·rename_i s3 b3 z3 t he
   injection e with e; injection e with e1 e2; subst e1; subst e2
   simp only [VR] at hx; subst hx
   have hnf := nf.new
   obtain ⟨hbv, hbs⟩ := Jb (φ := φ) (w := w) t
   obtain ⟨cap, hcap, hrun⟩ : ∃ cap, t.size ≤ cap ∧ (convert s d (.string t)).run P w = .ok (.slice (some ⟨w.heap.size, 0, none⟩) t.size cap)
    { w with drawn := w.drawn + 1, heap := w.heap.push (.cells ((t.data.toList.map fun b : UInt8 => Value.int .u8 b.toNat) ++ List.replicate (cap - t.size) (Value.int .u8 0)).toArray el (cap, cap + 1)) } := by
    refine ⟨t.size + w.tape w.drawn (.appendCap t.size 0 el) % (2 ^ 63 - t.size), by omega, ?_⟩
    generalize hk : w.tape w.drawn (.appendCap t.size 0 el) % (2 ^ 63 - t.size) = k
    have hsz : (t.data.toList.map fun b => Value.int .u8 b.toNat).length = t.size := by simp
    simp only [convert, Sem.run_bind, run_underlying (AT hs), run_underlying (Az hd), run_underlying (B1 he), Result.andThen_ok, Conv.stringToBytes, run_choose, Question.forced, Bool.false_eq_true, if_false, Question.cut, newRow, run_newObj,
     Sem.run_pure, markStringish, run_shape, hk]
    have hsh : ({ w with drawn := w.drawn + 1, heap := w.heap.push (.cells (Array.map (fun b : UInt8 => Value.int .u8 b.toNat) t.data ++ Array.replicate (t.size + k - t.size) (Value.int .u8 0)) el) } : World).shape? w.heap.size = some (el, t.size + k) := by
     simp only [World.shape?]
     show (match (w.heap.push _)[w.heap.size]? with | some (.cells c elem _) => some (elem, c.size) | _ => none) = _
     rw [Array.getElem?_push, if_pos rfl]
     simp
    rw [hsh]
    simp only [Sem.run_bind, run_freeze, Result.andThen_ok, World.freeze]
    congr 1
    simp only [Nat.one_ne_zero, if_false]
    congr 1
    apply Array.ext_getElem?
    intro j
    rw [Array.getElem?_modify, Array.getElem?_push, Array.getElem?_push]
    by_cases hj : j = w.heap.size
    ·subst hj
     simp
    ·rw [if_neg (fun e => hj e.symm), if_neg hj, if_neg hj]
   have h2 := h.drew (w.drawn + 1)
   have hfz : ∀ i, i < (t.data.toList.map fun b => Value.int .u8 b.toNat).length + (List.replicate (cap - t.size) (Value.int .u8 0)).length → ¬ (cap ≤ i ∧ (i < cap + 1 ∨ cap + 1 < cap)) := by
    intro i hi
    simp at hi
    omega
   obtain ⟨r1, r2⟩ := CK (fl := fl) h2 el hR hnf (hbv.mono (Ext.dr _)) hbs (List.replicate (cap - t.size) (.int .u8 0)) (cap, cap + 1) hfz
   refine ⟨_, _, hrun, _, ?_, r1, (Step.drew (w.drawn + 1)).trans r2 (fun b x hb => by
    rcases nf b x hb with h3 | h3
    ·exact .inl h3
    ·right; simp at h3; omega)⟩
   simp only [VR]
   refine ⟨Nat.le_refl _, w.heap.size, 0, 0, cap, Cw _ _ _ _, rfl, hcap, .inl rfl, _, _, _, C3 _ _, by simp; omega⟩
  ·cases e
 ·rename_i s1 b1 z1 s2 b2 z2 hs hd
  split at e
  ·rename_i t
   injection e with e; injection e with e1 e2; subst e1; subst e2
   simp only [VR] at hx; subst hx
   refine ⟨.string t, w, ?_, .same h (by simp only [VR])⟩
   simp [convert, run_underlying (AT hs), run_underlying (AT hd)]
  ·cases e
 ·rename_i s1 b1 el0 z1 s2 b2 el z2 hs hd
  split at e
  ·rename_i s3 b3 z3 b o z n c he
   obtain ⟨⟨hsd, hfl, hsm⟩, e⟩ := A6 e
   injection e with e; injection e with e1 e2; subst e1; subst e2
   obtain ⟨cs, hcs⟩ := Option.isSome_iff_exists.1 hsm
   have hx0 := hx
   simp only [VR] at hx
   obtain ⟨hnc, q, d1, off, c', hp, rfl, hc, ho, hr⟩ := hx
   obtain ⟨cc, T, fz, hq, hle, hv, hf⟩ := h.cells hp hcs
   obtain ⟨lo, hi⟩ := fz
   have hf := hf (Nat.le_trans hR2 hfl)
   obtain ⟨r1, r2⟩ := MV h (x := .cells cs) (o' := .cells cc T (if lo == hi then (cc.size, cc.size + 1) else (min lo cc.size, max hi (cc.size + 1)))) hp hfl hR2 (AI hcs) (by simp) hq
    (fun c1 T1 fz1 e => by injection e with e1 e2 e3; subst e1; exact ⟨_, _, _, rfl, rfl⟩)
    (fun w' hw' hext => ⟨cc, T, _, by rw [hw', if_pos rfl], hle, fun i v hi => by obtain ⟨h1, u, hu, r⟩ := hv i v hi; exact ⟨h1, u, hu, r.mono hext⟩, fun _ i hi2 => by
      have := hf i hi2
      have h3 := hf
      by_cases hlh : lo = hi
      ·subst hlh
       simp only [beq_self_eq_true, if_true]
       omega
      ·have hlh2 : (lo == hi) = false := by simp [hlh]
       rw [hlh2]
       simp only [Bool.false_eq_true, if_false]
       have : cc.size ≤ lo := by
        rcases Nat.lt_or_ge lo cc.size with hl | hl
        ·exact absurd ⟨Nat.le_refl _, by omega⟩ (h3 lo hl)
        ·exact hl
       omega⟩)
   have hHe : H.set b (.cells cs) = H := by
    obtain ⟨hb, e⟩ := List.getElem?_eq_some_iff.1 (AI hcs)
    rw [← e, List.set_getElem_self]
   rw [hHe] at r1 r2
   refine ⟨_, _, ?_, φ, hx0.mono r2.ext, r1, r2⟩
   simp only [convert, Sem.run_bind, run_underlying (Az hs), run_underlying (Az hd), run_underlying (B1 he), Result.andThen_ok, hsd, beq_self_eq_true, markStringish, run_shape, Sem.run_pure]
   have hsh : w.shape? q = some (T, cc.size) := by simp only [World.shape?, hq]
   rw [hsh]
   simp only [run_freeze, Result.andThen_ok, World.freeze, Nat.one_ne_zero, if_false]
   congr 2
   apply Array.ext_getElem?
   intro j
   rw [Array.getElem?_modify, Array.getElem?_setIfInBounds]
   by_cases hj : j = q
   ·subst hj
    have hjs : j < w.heap.size := h.bnd b j d1 hp
    simp [hjs, hq]
    have e2 := Array.getElem?_eq_getElem hjs
    rw [hq] at e2
    injection e2 with e2
    rw [← e2]
   ·rw [if_neg (fun e => hj e.symm), if_neg (fun e => hj e.symm)]
  ·cases e
 ·cases e
end
end Go.Proofs.YthlbglmfdjdagaaGreatDoor.Lg
