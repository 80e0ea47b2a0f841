/- An abstract machine over values for Go code as the model reads it: the definitions. No condition. -/
import Derived.Orders
set_option linter.unusedVariables false
set_option linter.unusedSimpArgs false
namespace Go.Vm
open Go

/-- An abstract value. 'sl': a slice that nobody writes to any more, as its elements' cells. 'osl k': the slice that owns array k. 'ptr b o': cell o of block b. 'eptr k i o': cell o of element i of array k. 'iptr cs': an address behind which the cells cs lie for good. -/
inductive V where
  | int (k : IntKind) (n : Int)
  | bool (b : Bool)
  | str (s : ByteArray)
  | sl (xs : List (List V))
  | nilsl
  | osl (k : Nat)
  | ptr (b off : Nat)
  | eptr (k i off : Nat)
  | iptr (cs : List V)
  | nilp
  | fn (f : Fn) (first captured : List V)
  | nilfn
  | agg (cs : List V)
  | tuple (vs : List V)
  | iface (t : TypeId) (v : V)
  | nili
  | imap (es : List (V × V))
  | omap (k : Nat)
  | iter (k : Nat)
  | junk
  deriving Inhabited

def V.cells : V → List V
  | .agg cs => cs
  | v => [v]

def ofValN : Nat → Value → Option V
  | 0, _ => none
  | n + 1, v => match v with
    | .int k x => some (.int k x)
    | .bool b => some (.bool b)
    | .string s => some (.str s)
    | .pointer none => some .nilp
    | .slice none 0 0 => some .nilsl
    | .nilFunc => some .nilfn
    | .nilIface => some .nili
    | .agg cs => (cs.toList.mapM (ofValN n)).map .agg
    | _ => none
def ofVal (v : Value) : Option V := ofValN 3 v

inductive TyU where
  | int (k : IntKind) | bool | string
  | slice (e : TypeId)
  | array (n : Nat) (e : TypeId)
  | struct (fs : List (Nat × TypeId))
  | map (k e : TypeId)
  | other
structure Ty where
  u : TyU
  size : Nat
  bytes : Nat
  agg : Bool
  zero : V

def tyU : TypeDesc → TyU
  | .int k => .int k
  | .bool => .bool
  | .string => .string
  | .slice e => .slice e
  | .array n e => .array n e
  | .struct fs => .struct (fs.toList.map fun f => (f.offset, f.type))
  | .map k e => .map k e
  | _ => .other
def aggD : TypeDesc → Bool
  | .struct _ => true
  | .array _ _ => true
  | _ => false
def mkTy (P : Program) (t : TypeId) : Option Ty :=
  match P.info? t, P.underlying t with
  | some i, some d => match i.zero with
    | some z => match ofVal z with
      | some zv => some { u := tyU d, size := i.size, bytes := i.bytes, agg := aggD d, zero := zv }
      | none => none
    | none => none
  | _, _ => none

/-- An array that the call's own code grows. -/
inductive Tok where
  | live (e : TypeId) (sz : Nat) (xs : List (List V))
  | froz (xs : List (List V))
  | dead
  deriving Inhabited
structure Mem where
  blks : List (List V)
  toks : List Tok
  maps : List (Bool × List (V × V))
  iters : List (Nat × List Nat)
structure St where
  env : List (Nat × V)
  mem : Mem

def lookE : List (Nat × V) → Nat → V
  | [], _ => .junk
  | (k, v) :: r, t => if k = t then v else lookE r t
def St.get (s : St) : Operand → V
  | .tmp t => lookE s.env t
  | .const v => (ofVal v).getD .junk
  | .func f => .fn (.func f) [] []
  | .global _ => .junk
def putE (env : List (Nat × V)) (d : Option Nat) (v : V) : List (Nat × V) :=
  match d with
  | some t => (t, v) :: env
  | none => env

def V.isJunk : V → Bool
  | .junk => true
  | _ => false

/-! Values: what occurs in them; renaming -/
mutual
def V.ptrs : V → List Nat
  | .ptr b _ => [b]
  | .fn _ fs cs => ptrsL fs ++ ptrsL cs
  | .agg cs => ptrsL cs
  | .tuple vs => ptrsL vs
  | .iface _ v => v.ptrs
  | _ => []
def ptrsL : List V → List Nat
  | [] => []
  | v :: r => v.ptrs ++ ptrsL r
end
mutual
def V.tks : V → List Nat
  | .osl k => [k]
  | .eptr k _ _ => [k]
  | .fn _ fs cs => tksL fs ++ tksL cs
  | .agg cs => tksL cs
  | .tuple vs => tksL vs
  | .iface _ v => v.tks
  | _ => []
def tksL : List V → List Nat
  | [] => []
  | v :: r => v.tks ++ tksL r
end
mutual
def V.mks : V → List Nat
  | .omap k => [k]
  | .fn _ fs cs => mksL fs ++ mksL cs
  | .agg cs => mksL cs
  | .tuple vs => mksL vs
  | .iface _ v => v.mks
  | _ => []
def mksL : List V → List Nat
  | [] => []
  | v :: r => v.mks ++ mksL r
end
-- Renames blocks and arrays; what has no new name, and maps and iterators of the call's own, don't go along.
mutual
def V.ren (p q : Nat → Option Nat) : V → V
  | .ptr b o => match p b with
    | some c => .ptr c o
    | none => .junk
  | .osl k => match q k with
    | some c => .osl c
    | none => .junk
  | .eptr k i o => match q k with
    | some c => .eptr c i o
    | none => .junk
  | .fn f fs cs => .fn f (renL p q fs) (renL p q cs)
  | .agg cs => .agg (renL p q cs)
  | .tuple vs => .tuple (renL p q vs)
  | .iface t v => .iface t (v.ren p q)
  | .omap _ => .junk
  | .iter _ => .junk
  | v => v
def renL (p q : Nat → Option Nat) : List V → List V
  | [] => []
  | v :: r => v.ren p q :: renL p q r
end
-- What is frozen stands as what it holds.
mutual
def V.norm (m : Mem) : V → V
  | .nilsl => .sl []
  | .osl k => match m.toks[k]? with
    | some (.froz xs) => .sl xs
    | _ => .osl k
  | .omap k => match m.maps[k]? with
    | some (false, es) => .imap es
    | _ => .omap k
  | .fn f fs cs => .fn f (normL m fs) (normL m cs)
  | .agg cs => .agg (normL m cs)
  | .tuple vs => .tuple (normL m vs)
  | .iface t v => .iface t (v.norm m)
  | v => v
def normL (m : Mem) : List V → List V
  | [] => []
  | v :: r => v.norm m :: normL m r
end
-- Plain data: it holds good in whatever memory grows out of this one.
mutual
def V.plain : V → Bool
  | .osl _ | .ptr _ _ | .eptr _ _ _ | .omap _ | .iter _ | .junk => false
  | .fn _ fs cs => plainL fs && plainL cs
  | .agg cs => plainL cs
  | .tuple vs => plainL vs
  | .iface _ v => v.plain
  | _ => true
def plainL : List V → Bool
  | [] => true
  | v :: r => v.plain && plainL r
end

/-- A value of one cell. -/
def V.one : V → Bool
  | .agg _ | .tuple _ | .junk => false
  | _ => true
def ones : List V → Bool
  | [] => true
  | v :: r => v.one && ones r
def onesL : List (List V) → Bool
  | [] => true
  | v :: r => ones v && onesL r
def frz : Tok → Tok
  | .live _ _ xs => .froz xs
  | t => t
def setAt {α : Type} : List α → Nat → (α → α) → List α
  | [], _, _ => []
  | x :: r, 0, f => f x :: r
  | x :: r, n + 1, f => x :: setAt r n f
def Mem.freeze (m : Mem) : List Nat → Mem
  | [] => m
  | k :: r => Mem.freeze { m with toks := setAt m.toks k frz } r

def Mem.freezeM (m : Mem) : List Nat → Mem
  | [] => m
  | k :: r => Mem.freezeM { m with maps := setAt m.maps k fun p => (false, p.2) } r

def idx : List Nat → Nat → Option Nat
  | [], _ => none
  | x :: r, a => if x = a then some 0 else (idx r a).map (· + 1)
def has : List Nat → Nat → Bool
  | [], _ => false
  | x :: r, a => if x = a then true else has r a
def nth : List Nat → Nat → Nat
  | [], _ => 0
  | x :: _, 0 => x
  | _ :: r, n + 1 => nth r n
def dedup : List Nat → List Nat → List Nat
  | seen, [] => seen
  | seen, x :: r => if has seen x then dedup seen r else dedup (seen ++ [x]) r
def blkAt (bs : List (List V)) (b : Nat) : List V := (bs[b]?).getD []
/-- The blocks that can be come to. -/
def reach (bs : List (List V)) : Nat → List Nat → List Nat → List Nat
  | 0, seen, _ => seen
  | _ + 1, seen, [] => seen
  | n + 1, seen, b :: todo => if has seen b then reach bs n seen todo else reach bs n (seen ++ [b]) (todo ++ ptrsL (blkAt bs b))
def fuelOf (bs : List (List V)) (todo : List Nat) : Nat := 8 * bs.length + todo.length + 8
def tksB : List (List V) → List Nat
  | [] => []
  | cs :: r => tksL cs ++ tksB r
/-- The memory of the blocks 'ids' and the arrays 'ks' alone, these named by their places. -/
def subMem (m : Mem) (ids ks : List Nat) : Mem :=
  { blks := ids.map fun b => renL (idx ids) (idx ks) (blkAt m.blks b), toks := ks.map fun k => (m.toks[k]?).getD .dead, maps := [], iters := [] }

/-! Slices, addresses -/
def rdSl (m : Mem) : V → Option (List (List V))
  | .sl xs => some xs
  | .nilsl => some []
  | .osl k => match m.toks[k]? with
    | some (.live _ _ xs) => some xs
    | some (.froz xs) => some xs
    | _ => none
  | _ => none
def part (ty : Ty) (cs : List V) (off : Nat) : Option V :=
  if ty.agg then (if off + ty.size ≤ cs.length then some (.agg ((cs.drop off).take ty.size)) else none) else cs[off]?
def splice (cs : List V) (off : Nat) (new : List V) : List V := cs.take off ++ new ++ cs.drop (off + new.length)
def tokXs : Option Tok → Option (List (List V))
  | some (.live _ _ xs) => some xs
  | _ => none
def loadV (m : Mem) (ty : Ty) : V → Option V
  | .ptr b off => match m.blks[b]? with
    | some cs => part ty cs off
    | none => none
  | .iptr cs => part ty cs 0
  | .eptr k i off => match tokXs m.toks[k]? with
    | some xs => match xs[i]? with
      | some cs => part ty cs off
      | none => none
    | none => none
  | _ => none
/-- Freezes what the value owns, and tells it as plain data. -/
def settle (m : Mem) (v : V) : Mem × V := (((m.freeze v.tks).freezeM v.mks), v.norm ((m.freeze v.tks).freezeM v.mks))
def settleL (m : Mem) (vs : List V) : Mem × List V := (((m.freeze (tksL vs)).freezeM (mksL vs)), normL ((m.freeze (tksL vs)).freezeM (mksL vs)) vs)
def storeV (m : Mem) (ty : Ty) (v : V) : V → Option Mem
  | .ptr b off => match m.blks[b]? with
    | some cs => if v.cells.length = ty.size ∧ off + ty.size ≤ cs.length ∧ ones v.cells = true then some { m with blks := setAt m.blks b fun _ => splice cs off v.cells } else none
    | none => none
  | .eptr k i off =>
    let (m, v) := settle m v
    match m.toks[k]? with
    | some (.live e sz xs) => match xs[i]? with
      | some cs => if v.cells.length = ty.size ∧ off + ty.size ≤ cs.length ∧ v.plain = true ∧ ones v.cells = true then
          some { m with toks := setAt m.toks k fun _ => .live e sz (setAt xs i fun _ => splice cs off v.cells) } else none
      | none => none
    | _ => none
  | _ => none
/-- The fields' types are all known. -/
def typed (P : Program) : List (Nat × TypeId) → Bool
  | [] => true
  | (_, t) :: r => (mkTy P t).isSome && typed P r
def fillV (place : Nat → Option (Nat × Nat)) : List V → List (Nat × V) → Option (List V)
  | cs, [] => some cs
  | cs, (i, v) :: r => match place i with
    | some (off, size) => if v.isJunk = false ∧ v.cells.length = size ∧ off + size ≤ cs.length then fillV place (splice cs off v.cells) r else none
    | none => none

/-- What an operation comes to: a condition that is to be shown, the value, the memory. -/
structure Eff where
  ok : Prop
  v : V
  mem : Mem

def byteAt (s : ByteArray) (i : Nat) : Int := if h : i < s.size then ((s[i]'h).toNat : Int) else 0

def intBin (op : BinOp) (k : IntKind) (a b : Int) : Option (Prop × V) :=
  match op with
  | .add => some (True, .int k (k.wrap (a + b)))
  | .sub => some (True, .int k (k.wrap (a - b)))
  | .mul => some (True, .int k (k.wrap (a * b)))
  | .quo => some (b ≠ 0, .int k (k.wrap (a.tdiv b)))
  | .rem => some (b ≠ 0, .int k (a.tmod b))
  | .and => some (True, .int k (k.wrap (BitVec.ofInt k.bits a &&& BitVec.ofInt k.bits b).toNat))
  | .or => some (True, .int k (k.wrap (BitVec.ofInt k.bits a ||| BitVec.ofInt k.bits b).toNat))
  | .xor => some (True, .int k (k.wrap (BitVec.ofInt k.bits a ^^^ BitVec.ofInt k.bits b).toNat))
  | .andNot => some (True, .int k (k.wrap (BitVec.ofInt k.bits a &&& ~~~(BitVec.ofInt k.bits b)).toNat))
  | .eql => some (True, .bool (a == b))
  | .neq => some (True, .bool (a != b))
  | .lss => some (True, .bool (decide (a < b)))
  | .leq => some (True, .bool (decide (a ≤ b)))
  | .gtr => some (True, .bool (decide (a > b)))
  | .geq => some (True, .bool (decide (a ≥ b)))
  | _ => none
def strBin (op : BinOp) (x y : ByteArray) : Option (Prop × V) :=
  match op with
  | .add => some (((x.size + y.size : Nat) : Int) ≤ IntKind.i64.max, .str (x ++ y))
  | .eql => some (True, .bool (x.toList == y.toList))
  | .neq => some (True, .bool (!(x.toList == y.toList)))
  | .lss => some (True, .bool (Op.bytesLess x.toList y.toList))
  | .leq => some (True, .bool (Op.bytesLess x.toList y.toList || x.toList == y.toList))
  | .gtr => some (True, .bool (!(Op.bytesLess x.toList y.toList || x.toList == y.toList)))
  | .geq => some (True, .bool (!(Op.bytesLess x.toList y.toList)))
  | _ => none
def binV (P : Program) (op : BinOp) (t : TypeId) (x y : V) : Option (Prop × V) :=
  match x, y with
  | .int k a, .int k' b =>
    match op with
    | .shl => some (0 ≤ b, .int k (k.wrap (a * 2 ^ (min b.toNat k.bits))))
    | .shr => some (0 ≤ b, .int k (a.fdiv (2 ^ (min b.toNat k.bits))))
    | _ => if k = k' then
        (match op with
         | .eql | .neq => match mkTy P t with
           | some { u := .int _, .. } => intBin op k a b
           | _ => none
         | _ => intBin op k a b) else none
  | .str a, .str b => strBin op a b
  | .bool a, .bool b => match mkTy P t with
    | some { u := .bool, .. } => match op with
      | .eql => some (True, .bool (a == b))
      | .neq => some (True, .bool (!(a == b)))
      | _ => none
    | _ => none
  | _, _ => none
def unV (op : UnOp) : V → Option V
  | .bool b => match op with
    | .not => some (.bool !b)
    | _ => none
  | .int k n => match op with
    | .neg => some (.int k (k.wrap (0 - n)))
    | .xor => some (.int k (k.wrap (BitVec.ofInt k.bits (if k.signed then -1 else k.max) ^^^ BitVec.ofInt k.bits n).toNat))
    | _ => none
  | _ => none
def bytesOf : List (List V) → Option (List UInt8)
  | [] => some []
  | [.int .u8 n] :: r => (bytesOf r).map fun l => UInt8.ofNat n.toNat :: l
  | _ => none
def cellsOfStr (s : ByteArray) : List (List V) := s.data.toList.map fun b => [V.int .u8 b.toNat]
def convV (P : Program) (src dst : TypeId) (m : Mem) (x : V) : Option (V × Mem) :=
  match mkTy P src, mkTy P dst, x with
  | some _, some { u := .int k, .. }, .int _ n => some (.int k (k.wrap n), m)
  | some _, some { u := .string, .. }, .str s => some (.str s, m)
  | _, _, _ => none
def allLen (xs : List (List V)) (n : Nat) : Prop := ∀ x ∈ xs, x.length = n

/-- The place of an element. -/
def indexAddrV (P : Program) (m : Mem) (t : TypeId) (x ix : V) : Option (Prop × V) :=
  match mkTy P t, x, ix with
  | some { u := .slice e, .. }, x, .int _ i => match mkTy P e with
    | some ty => if ty.size = 0 then none else
      match x with
      | .sl xs => some (0 ≤ i ∧ i < xs.length ∧ ((xs[i.toNat]?).getD []).length = ty.size, .iptr ((xs[i.toNat]?).getD []))
      | .osl k => match m.toks[k]? with
        | some (.live e' sz xs) => if sz = ty.size then some (0 ≤ i ∧ i < xs.length, .eptr k i.toNat 0) else none
        | some (.froz xs) => some (0 ≤ i ∧ i < xs.length ∧ ((xs[i.toNat]?).getD []).length = ty.size, .iptr ((xs[i.toNat]?).getD []))
        | _ => none
      | _ => none
    | none => none
  | some { u := .array n e, .. }, .ptr b off, .int _ i => match mkTy P e with
    | some ty => if ty.size = 0 ∨ n ≤ 1 then none else some (0 ≤ i ∧ i < n, .ptr b (off + i.toNat * ty.size))
    | none => none
  | _, _, _ => none
def indexV (P : Program) (t : TypeId) (x ix : V) : Option (Prop × V) :=
  match mkTy P t, x, ix with
  | some { u := .string, .. }, .str s, .int _ i => some (0 ≤ i ∧ i < s.size, .int .u8 (byteAt s i.toNat))
  | some { u := .array n e, .. }, .agg cs, .int _ i => match mkTy P e with
    | some ty => some (0 ≤ i ∧ i < n ∧ (part ty cs (i.toNat * ty.size)).isSome = true, (part ty cs (i.toNat * ty.size)).getD .junk)
    | none => none
  | _, _, _ => none
def bound : Option V → Option (Option Int)
  | none => some none
  | some (.int _ i) => some (some i)
  | _ => none
def sliceV (P : Program) (m : Mem) (t : TypeId) (x : V) (lo hi mx : Option V) : Option Eff :=
  match mkTy P t, bound lo, bound hi, bound mx with
  | some ty, some lo, some hi, some mx =>
    match ty.u, x with
    | .string, .str s => match mx with
      | none => let l := lo.getD 0; let h := hi.getD s.size
        some ⟨0 ≤ l ∧ l ≤ h ∧ h ≤ s.size, .str (s.extract l.toNat h.toNat), m⟩
      | some _ => none
    | .slice e, .sl xs => let l := lo.getD 0; let h := hi.getD xs.length
      match mx with
      | none => some ⟨0 ≤ l ∧ l ≤ h ∧ h ≤ xs.length ∧ (∃ ty', mkTy P e = some ty' ∧ allLen xs ty'.size), .sl ((xs.take h.toNat).drop l.toNat), m⟩
      | some c => some ⟨hi.isSome = true ∧ 0 ≤ l ∧ l ≤ h ∧ h ≤ c ∧ c ≤ xs.length ∧ (∃ ty', mkTy P e = some ty' ∧ allLen xs ty'.size), .sl ((xs.take h.toNat).drop l.toNat), m⟩
    | .slice e, .osl k => match m.toks[k]?, lo, mx, mkTy P e with
      | some (.live e' sz xs), none, none, some ty' => let h := hi.getD xs.length
        if e' = e ∧ sz = ty'.size then some ⟨0 ≤ h ∧ h ≤ xs.length, .osl m.toks.length, { m with toks := setAt m.toks k (fun _ => .dead) ++ [.live e' sz (xs.take h.toNat)] }⟩ else none
      | _, _, _, _ => none
    | _, _ => none
  | _, _, _, _ => none
def roomy : Nat := 140737488355328
def appendV (P : Program) (m : Mem) (t t2 : TypeId) (s x : V) : Option Eff :=
  if t ≠ t2 then none else
  match mkTy P t with
  | some { u := .slice e, .. } => match mkTy P e with
    | some ty =>
      if ty.size = 0 ∨ ty.zero.cells.length ≠ ty.size then none else
      match rdSl m x with
      | some ys =>
        match s with
        | .nilsl => some ⟨allLen ys ty.size ∧ ys.length * ty.bytes ≤ roomy ∧ ys.length ≤ 9223372036854775807, .osl m.toks.length, { m with toks := m.toks ++ [.live e ty.size ys] }⟩
        | .osl k => if x.tks = [k] then none else match m.toks[k]? with
          | some (.live e' sz xs) => if e' = e ∧ sz = ty.size then
              some ⟨allLen ys ty.size ∧ (xs.length + ys.length) * ty.bytes ≤ roomy ∧ xs.length + ys.length ≤ 9223372036854775807, .osl m.toks.length,
                { m with toks := setAt m.toks k (fun _ => .dead) ++ [.live e' sz (xs ++ ys)] }⟩ else none
          | _ => none
        | _ => none
      | none => none
    | none => none
  | _ => none
def lenV (P : Program) (m : Mem) (t : TypeId) (v : V) : Option V :=
  match mkTy P t, v with
  | some { u := .string, .. }, .str s => some (.int .i64 s.size)
  | some { u := .slice _, .. }, v => (rdSl m v).map fun xs => .int .i64 xs.length
  | _, _ => none
/-- A key in a map that is known entry by entry. -/
def sameKey : V → V → Option Prop
  | .str a, .str b => some (a = b)
  | .int k a, .int k' b => if k = k' then some (a = b) else none
  | _, _ => none
/-- A key that may be held against others: a string, a whole number. -/
def keyTy (P : Program) (t : TypeId) (k : V) : Bool :=
  match mkTy P t, k with
  | some { u := .string, .. }, .str _ => true
  | some { u := .int a, .. }, .int b _ => a == b
  | _, _ => false
/-- For a look-up: each entry's way, then the way of none. -/
def lookK (k : V) (z : V) (K : V → Prop) : List (V × V) → Prop
  | [] => K z
  | (k', v) :: r => match sameKey k k' with
    | some p => (p → K v) ∧ (¬ p → lookK k z K r)
    | none => False
def newKey (k : V) : List (V × V) → Prop
  | [] => True
  | (k', _) :: r => match sameKey k k' with
    | some p => ¬ p ∧ newKey k r
    | none => False

/-- The operations that neither call nor branch. 'cold': what buildSlice makes goes straight into an append. -/
def evalOp (P : Program) (cold : Bool) (s : St) : Op → Option Eff
  | .move x => some ⟨True, s.get x, s.mem⟩
  | .assign x => some ⟨True, s.get x, s.mem⟩
  | .alloc t => match mkTy P t with
    | some ty => some ⟨True, .ptr s.mem.blks.length 0, { s.mem with blks := s.mem.blks ++ [ty.zero.cells] }⟩
    | none => none
  | .box _ x => if (s.get x).isJunk then none else some ⟨True, .ptr s.mem.blks.length 0, { s.mem with blks := s.mem.blks ++ [(s.get x).cells] }⟩
  | .build t ps => match mkTy P t with
    | some { u := .struct fs, zero := z, .. } =>
      if typed P fs = false then none else match fillV (fun i => match fs[i]? with
        | some (o, ft) => match mkTy P ft with
          | some ty => some (o, ty.size)
          | none => none
        | none => none) z.cells (ps.toList.map fun p => (p.1, s.get p.2)) with
      | some cs => some ⟨True, .agg cs, s.mem⟩
      | none => none
    | some { u := .array _ e, zero := z, .. } => match mkTy P e with
      | some ty => match fillV (fun i => some (i * ty.size, ty.size)) z.cells (ps.toList.map fun p => (p.1, s.get p.2)) with
        | some cs => some ⟨True, .agg cs, s.mem⟩
        | none => none
      | none => none
    | _ => none
  | .buildSlice t n ps => match mkTy P t with
    | some { u := .slice e, .. } => match mkTy P e with
      | some ty => if ty.size = 0 ∨ ty.zero.cells.length ≠ ty.size ∨ n > 1000 ∨ n * ty.size > 16777216 then none else
        let (m, vs) := settleL s.mem (ps.toList.map fun p => s.get p.2)
        if plainL vs = true ∧ onesL (vs.map V.cells) = true ∧ ones ty.zero.cells = true then
          match fillV (fun i => some (i * ty.size, ty.size)) ((List.replicate n ty.zero.cells).flatten) ((ps.toList.map (·.1)).zip vs) with
          | some cs => let xs := (List.range n).map fun i => (cs.drop (i * ty.size)).take ty.size
            if cold then some ⟨True, .sl xs, m⟩ else some ⟨True, .osl m.toks.length, { m with toks := m.toks ++ [.live e ty.size xs] }⟩
          | none => none
        else none
      | none => none
    | _ => none
  | .load t a => match mkTy P t with
    | some ty => match loadV s.mem ty (s.get a) with
      | some v => some ⟨True, v, s.mem⟩
      | none => none
    | none => none
  | .store t a x => match mkTy P t with
    | some ty => match storeV s.mem ty (s.get x) (s.get a) with
      | some m => some ⟨True, .junk, m⟩
      | none => none
    | none => none
  | .nilCheck x => match s.get x with
    | .ptr b o => some ⟨True, .ptr b o, s.mem⟩
    | .eptr k i o => some ⟨True, .eptr k i o, s.mem⟩
    | .iptr cs => some ⟨True, .iptr cs, s.mem⟩
    | _ => none
  | .binOp op t x y _ => match binV P op t (s.get x) (s.get y) with
    | some (p, v) => some ⟨p, v, s.mem⟩
    | none => none
  | .unOp op _ x => match unV op (s.get x) with
    | some v => some ⟨True, v, s.mem⟩
    | none => none
  | .convert src dst x => match convV P src dst s.mem (s.get x) with
    | some (v, m) => some ⟨True, v, m⟩
    | none => match mkTy P src, mkTy P dst, rdSl s.mem (s.get x) with
      | some { u := .slice e, .. }, some { u := .string, .. }, some xs => match mkTy P e, bytesOf xs with
        | some { u := .int .u8, .. }, some l => some ⟨True, .str ⟨l.toArray⟩, s.mem⟩
        | _, _ => none
      | _, _, _ => none
  | .makeFunc f fs cs => some ⟨True, .fn f (fs.toList.map s.get) (cs.toList.map s.get), s.mem⟩
  | .slice t x lo hi mx => sliceV P s.mem t (s.get x) (lo.map s.get) (hi.map s.get) (mx.map s.get)
  | .fieldAddr t x f => match mkTy P t with
    | some { u := .struct fs, .. } => match fs[f]? with
      | some (o, ft) => match mkTy P ft with
        | some ty => if ty.size = 0 then none else match s.get x with
          | .ptr b off => some ⟨True, .ptr b (off + o), s.mem⟩
          | .iptr cs => if o ≤ cs.length then some ⟨True, .iptr (cs.drop o), s.mem⟩ else none
          | .eptr k i off => some ⟨True, .eptr k i (off + o), s.mem⟩
          | _ => none
        | none => none
      | none => none
    | _ => none
  | .field t x f => match mkTy P t, s.get x with
    | some { u := .struct fs, .. }, .agg cs => match fs[f]? with
      | some (o, ft) => match mkTy P ft with
        | some ty => match part ty cs o with
          | some v => some ⟨True, v, s.mem⟩
          | none => none
        | none => none
      | none => none
    | _, _ => none
  | .indexAddr t x i => match indexAddrV P s.mem t (s.get x) (s.get i) with
    | some (p, v) => some ⟨p, v, s.mem⟩
    | none => none
  | .index t x i => match indexV P t (s.get x) (s.get i) with
    | some (p, v) => some ⟨p, v, s.mem⟩
    | none => none
  | .extract x i => match s.get x with
    | .tuple vs => match vs[i]? with
      | some v => some ⟨True, v, s.mem⟩
      | none => none
    | _ => none
  | .makeInterface t x => match mkTy P t with
    | some { u := .other, .. } => none
    | some _ => some ⟨True, .iface t (s.get x), s.mem⟩
    | none => none
  | .call { callee := .builtin .len, args := as, argTypes := ts } => match as.toList, ts.toList with
    | [x], [t] => match lenV P s.mem t (s.get x) with
      | some v => some ⟨True, v, s.mem⟩
      | none => none
    | _, _ => none
  | .call { callee := .builtin .max, args := as, argTypes := ts } => match as.toList with
    | [x, y] => match s.get x, s.get y with
      | .int k a, .int k' b => if k = k' then some ⟨True, .int k (if a < b then b else a), s.mem⟩ else none
      | _, _ => none
    | _ => none
  | .call { callee := .builtin .min, args := as, argTypes := ts } => match as.toList with
    | [x, y] => match s.get x, s.get y with
      | .int k a, .int k' b => if k = k' then some ⟨True, .int k (if b < a then b else a), s.mem⟩ else none
      | _, _ => none
    | _ => none
  | .call { callee := .builtin .append, args := as, argTypes := ts } => match as.toList, ts.toList with
    | [a, x], [t, t2] => appendV P s.mem t t2 (s.get a) (s.get x)
    | _, _ => none
  | _ => none
end Go.Vm

namespace Go.Vm
open Go

/-- What an operation does to the memory: nothing · it reads these blocks and arrays · it may turn these. -/
inductive Cls where
  | pure
  | rd (b k : List Nat)
  | eff (b k : List Nat) (nb nt : Nat)

def effOf (m : Mem) (b k : List Nat) : Cls := .eff b k m.blks.length m.toks.length
def clsOf (s : St) : Op → Cls
  | .alloc _ => effOf s.mem [] []
  | .box _ _ => effOf s.mem [] []
  | .buildSlice _ _ ps => effOf s.mem [] (tksL (ps.toList.map fun p => s.get p.2))
  | .load _ a => match s.get a with
    | .ptr b _ => .rd [b] []
    | .eptr k _ _ => .rd [] [k]
    | _ => .pure
  | .store _ a x => match s.get a with
    | .ptr b _ => effOf s.mem [b] []
    | .eptr k _ _ => effOf s.mem [] (k :: (s.get x).tks)
    | _ => effOf s.mem [] []
  | .slice _ x _ _ _ => match s.get x with
    | .osl k => effOf s.mem [] [k]
    | _ => .pure
  | .indexAddr _ x _ => match s.get x with
    | .osl k => .rd [] [k]
    | _ => .pure
  | .convert _ _ x => match s.get x with
    | .osl k => .rd [] [k]
    | _ => .pure
  | .call { callee := .builtin .len, args := as, .. } => .rd [] (tksL (as.toList.map s.get))
  | .call { callee := .builtin .append, args := as, .. } => effOf s.mem [] (tksL (as.toList.map s.get))
  | .call _ => effOf s.mem [] []
  | _ => .pure
/-- What goes straight into an append, and holds nothing of the call's own, touches nothing that could be seen. -/
def clsC (cold : Bool) (s : St) (op : Op) : Cls :=
  match op with
  | .buildSlice t n ps => match cold, tksL (ps.toList.map fun p => s.get p.2), mksL (ps.toList.map fun p => s.get p.2) with
    | true, [], [] => .pure
    | _, _, _ => clsOf s (.buildSlice t n ps)
  | op => clsOf s op
def meets : List Nat → List Nat → Bool
  | [], _ => false
  | x :: r, l => has l x || meets r l
def over (n : Nat) : List Nat → Bool
  | [] => false
  | x :: r => decide (n ≤ x) || over n r
def Cls.clash : Cls → Cls → Bool
  | .pure, _ => false
  | _, .pure => false
  | .rd _ _, .rd _ _ => false
  | .rd b k, .eff c l nb nt => meets b c || meets k l || over nb b || over nt k
  | .eff c l nb nt, .rd b k => meets b c || meets k l || over nb b || over nt k
  | .eff _ _ _ _, .eff _ _ _ _ => true
/-- Names of temporaries that an operation reads, its guard's too. -/
def reads (ops : Array Oper) (o : Oper) : List Nat :=
  (o.op.operands.toList.filterMap fun | .tmp t => some t | _ => none) ++
  (match o.guard with
   | some (g, _) => ((ops[g]?).bind (·.dst)).toList
   | none => [])
/-- May this region be carried out in the order of its text, whatever order is drawn? Two operations of which neither waits for the other don't clash, and don't touch each other's temporaries. -/
def ordered (m : Array Nat) (i j : Nat) : Bool := (m.getD (max i j) 0).testBit (min i j)
def chkPair (ops : Array Oper) (m : Array Nat) (cs : List Cls) (i j : Nat) : Bool :=
  ordered m i j ||
  (match ops[i]?, ops[j]? with
   | some a, some b =>
     (match a.dst with
      | some d => !has (reads ops b) d && b.dst != some d
      | none => true) &&
     (match b.dst with
      | some d => !has (reads ops a) d
      | none => true)
   | _, _ => true) && !((cs[i]?).getD .pure).clash ((cs[j]?).getD .pure)
def noSel (o : Oper) : Bool := match o.op with
  | .select .. => false
  | _ => true
/-- Each edge goes back, and 'before' holds nothing but what is before. -/
def chkOne (ops : Array Oper) (m : Array Nat) (j : Nat) : Bool :=
  match ops[j]? with
  | some o => noSel o && o.after.all (fun e => !Region.binds .any e || decide (e.on < j)) &&
    (List.range j).all fun i => !ordered m i j || o.after.any fun e => Region.binds .any e && (e.on == i || (decide (i < e.on) && ordered m i e.on))
  | none => true
def chk (ops : Array Oper) (cs : List Cls) : Bool :=
  let m := Region.before ops
  (List.range ops.size).all fun j => chkOne ops m j && (List.range j).all fun i => chkPair ops m cs i j

abbrev CallRel := FuncId → List V → Mem → V → Mem → Prop

def putMany (bs : List (List V)) : List Nat → List (List V) → List (List V)
  | [], _ => bs
  | _, [] => bs
  | i :: r, c :: cs => putMany (setAt bs i fun _ => c) r cs
def killAll (ts : List Tok) : List Nat → List Tok
  | [] => ts
  | k :: r => killAll (setAt ts k fun _ => .dead) r
def backB (ids : List Nat) (n : Nat) (c : Nat) : Option Nat := some (if c < ids.length then nth ids c else n + (c - ids.length))
def backK (n : Nat) (c : Nat) : Option Nat := some (n + c)
/-- The caller's memory behind a call that had the blocks 'ids' and the arrays 'ks'. -/
def backM (m : Mem) (ids ks : List Nat) (m' : Mem) : Mem :=
  let bs := m'.blks.map (renL (backB ids m.blks.length) (backK m.toks.length))
  { m with blks := putMany m.blks ids (bs.take ids.length) ++ bs.drop ids.length, toks := killAll m.toks ks ++ m'.toks }

structure Cfg where
  P : Program
  /-- Functions that are handed what the caller owns, and may turn it. -/
  lend : FuncId → Bool
  /-- What is known of the blocks that nobody writes to any more: tables. -/
  J : World → (Nat → Prop) → Prop := fun _ _ => True
  /-- Functions that turn a row of the caller's own in its place, and answer nothing. -/
  ipB : FuncId → Bool := fun _ => false
  ip : FuncId → TypeId → Nat → List (List V) → List (List V) → Prop := fun _ _ _ _ _ => False

/-- The type β, told beside x: an argument of it keeps simp out of the argument x ahead of it. -/
abbrev On {α : Sort _} (_ : α) (β : Type) : Type := β
/-- A test on a value. -/
def boolK (p q : Prop) (v : On (And p q) V) : Prop :=
  match (v : V) with
  | .bool t => (t = true → p) ∧ (t = false → q)
  | _ => False
def guardK (p q : Prop) (v : On (And p q) V) (w : On (And p q) Bool) : Prop :=
  match (v : V) with
  | .bool b => (b = w → p) ∧ (b ≠ w → q)
  | .tuple [] => q
  | _ => False
def effK (K : Cls → V → Mem → Prop) (e : On K (Option Eff)) (k : On K Cls) : Prop :=
  match (e : Option Eff) with
  | some e => e.ok ∧ K k e.v e.mem
  | none => False
/-- A call of a function, its arguments and the memory that it has being told. -/
def runK (R : CallRel) (J : V → Mem → Prop) (g : On J FuncId) (args : On J (List V)) (m : On J Mem) : Prop := ∃ r m', R g args m r m' ∧ J r m'
def call3 (R : CallRel) (K : Cls → V → Mem → Prop) (g : On K FuncId) (as : On K (List V)) (m : On K Mem) (tk ids ks : On K (List Nat)) : Prop :=
  runK R (fun r m' => K (effOf m ids (ks ++ tk)) (r.ren (backB ids m.blks.length) (backK m.toks.length)) (backM m ids ks m')) g (renL (idx ids) (idx ks) as) (subMem m ids ks)
def call2 (R : CallRel) (K : Cls → V → Mem → Prop) (g : On K FuncId) (as : On K (List V)) (m : On K Mem) (tk ids : On K (List Nat)) : Prop :=
  call3 R K g as m tk ids (dedup [] (tksL as ++ tksB (List.map (blkAt m.blks) ids)))
def call1 (R : CallRel) (K : Cls → V → Mem → Prop) (g : On K FuncId) (p : On K (Mem × List V)) (tk : On K (List Nat)) : Prop :=
  call2 R K g p.2 p.1 tk (reach p.1.blks (fuelOf p.1.blks (ptrsL p.2)) [] (ptrsL p.2))
/-- A row of the caller's own, turned in its place. -/
def ipK (c : Cfg) (K : Cls → V → Mem → Prop) (g : On K FuncId) (m : On K Mem) (as : On K (List V)) : Prop :=
  ∃ k e sz xs ys, (as : List V) = [.osl k] ∧ (m : Mem).toks[k]? = some (.live e sz xs) ∧ c.ip g e sz xs ys ∧ K (effOf m [] [k]) (.tuple []) { (m : Mem) with toks := setAt (m : Mem).toks k fun _ => .live e sz ys }
/-- A call of a function value. -/
def callK (c : Cfg) (R : CallRel) (K : Cls → V → Mem → Prop) (m : On K Mem) (f : On K V) (args : On K (List V)) : Prop :=
  match (f : V) with
  | .fn (.func g) fs cs => if c.ipB g = true then fs = [] ∧ cs = [] ∧ ipK c K g m args else call1 R K g (if c.lend g then (m, fs ++ args ++ cs) else settleL m (fs ++ args ++ cs)) (tksL (fs ++ args ++ cs))
  | _ => False

def coldIn (d : Option Nat) : List Oper → Bool
  | [] => false
  | o :: r => match o.op with
    | .call { callee := .builtin .append, args := as, .. } => match as.toList with
      | [_, .tmp t] => if d = some t then true else coldIn d r
      | _ => coldIn d r
    | _ => coldIn d r

def guardVal (all : List Oper) (j : Nat) (s : St) : V :=
  match all[j]? with
  | some o => match o.dst with
    | some d => lookE s.env d
    | none => .junk
  | none => .junk

def mapOf (m : Mem) : V → Option (List (V × V))
  | .imap es => some es
  | .omap k => match m.maps[k]? with
    | some p => some p.2
    | none => none
  | _ => none
def stepK (c : Cfg) (R : CallRel) (all : List Oper) (o : Oper) (s : St) (K : Cls → V → Mem → Prop) : Prop :=
  match o.op with
  | .pick q a b => boolK (K .pure (s.get a) s.mem) (K .pure (s.get b) s.mem) (s.get q)
  | .call { callee := .value f, args := as, .. } => callK c R K s.mem (s.get f) (as.toList.map s.get)
  | op => effK K (evalOp c.P (coldIn o.dst all) s op) (clsC (coldIn o.dst all) s op)
/-- Where no order is drawn no book is kept. -/
def book (draw : Bool) (k : Cls) (acc : List Cls) : List Cls :=
  match draw with
  | true => k :: acc
  | false => []
def wpOps (c : Cfg) (R : CallRel) (all : List Oper) (draw : Bool) : List Oper → St → List Cls → (List Cls → St → Prop) → Prop
  | [], s, acc, K => K acc s
  | o :: os, s, acc, K =>
    match o.guard with
    | none => stepK c R all o s fun k v m => wpOps c R all draw os ⟨putE s.env o.dst v, m⟩ (book draw k acc) K
    | some (j, w) => guardK (stepK c R all o s fun k v m => wpOps c R all draw os ⟨putE s.env o.dst v, m⟩ (book draw k acc) K)
        (wpOps c R all draw os ⟨putE s.env o.dst (.tuple []), s.mem⟩ (book draw .pure acc) K) (guardVal all j s) w

inductive Ex where
  | normal | exit (id : Nat) | ret

/-- What is forgotten at a loop's head: what to keep; which nil slices begin to be owned. -/
structure Keep where
  env : List Nat
  /-- What is written to no more. -/
  frz : List Nat := []
  nils : List (Nat × TypeId × Nat) := []
  bnils : List (Nat × Nat × TypeId × Nat) := []
def ownNil (m : Mem) (v : V) (e : TypeId) (sz : Nat) : V × Mem :=
  match v with
  | .nilsl => if sz = 0 then (.nilsl, m) else (.osl m.toks.length, { m with toks := m.toks ++ [.live e sz []] })
  | v => (v, m)
def frzEnv : St → List Nat → St
  | s, [] => s
  | s, t :: r => frzEnv ⟨(t, (settle s.mem (lookE s.env t)).2) :: s.env, (settle s.mem (lookE s.env t)).1⟩ r
def ownEnv : St → List (Nat × TypeId × Nat) → St
  | s, [] => s
  | s, (t, e, sz) :: r => ownEnv ⟨(t, (ownNil s.mem (lookE s.env t) e sz).1) :: s.env, (ownNil s.mem (lookE s.env t) e sz).2⟩ r
def ownBlk : Mem → List (Nat × Nat × TypeId × Nat) → Mem
  | m, [] => m
  | m, (b, i, e, sz) :: r =>
    ownBlk { (ownNil m (((blkAt m.blks b)[i]?).getD .junk) e sz).2 with blks := setAt m.blks b fun cs => setAt cs i fun _ => (ownNil m (((blkAt m.blks b)[i]?).getD .junk) e sz).1 } r
def keepE (env : List (Nat × V)) : List Nat → List (Nat × V)
  | [] => []
  | t :: r => (t, lookE env t) :: keepE env r
def valsE : List (Nat × V) → List V
  | [] => []
  | (_, v) :: r => v :: valsE r
def renE (p q : Nat → Option Nat) : List (Nat × V) → List (Nat × V)
  | [] => []
  | (t, v) :: r => (t, v.ren p q) :: renE p q r
def gcIds (nb : Nat) (m : Mem) (vs : List V) : List Nat := reach m.blks (fuelOf m.blks (List.range nb ++ ptrsL vs)) [] (List.range nb ++ ptrsL vs)
def gcKs (m : Mem) (ids : List Nat) (vs : List V) : List Nat := dedup [] (tksB (ids.map (blkAt m.blks)) ++ tksL vs)
def forget (nb : Nat) (d : Keep) (s : St) : St :=
  let s1 := ownEnv (frzEnv s d.frz) d.nils
  let m := ownBlk s1.mem d.bnils
  let env := keepE s1.env d.env
  let ids := gcIds nb m (valsE env)
  let ks := gcKs m ids (valsE env)
  ⟨renE (idx ids) (idx ks) env, subMem m ids ks⟩
def Weak (nb : Nat) (s s' : St) : Prop := s' = s ∨ ∃ d, forget nb d s = s'

def iterK (B : St → (Ex → St → Prop) → Prop) (nb : Nat) : Nat → St → (Ex → St → Prop) → Prop
  | 0, _, _ => False
  | n + 1, s, Q => B s fun e s' => match e with
    | .normal => ∃ s'', Weak nb s' s'' ∧ iterK B nb n s'' Q
    | e => Q e s'
def thenK (next : St → Prop) (Q : Ex → St → Prop) : Ex → St → Prop
  | .normal, s => next s
  | e, s => Q e s
def blockK (id : Nat) (Q : Ex → St → Prop) : Ex → St → Prop
  | .exit i, s => if i = id then Q .normal s else Q (.exit i) s
  | e, s => Q e s
def wp (c : Cfg) (R : CallRel) (nb : Nat) : Code → St → (Ex → St → Prop) → Prop
  | .skip, s, Q => Q .normal s
  | .region _ ops draw, s, Q => match draw with
    | false => wpOps c R ops.toList false ops.toList s [] fun _ s' => Q .normal s'
    | true => wpOps c R ops.toList true ops.toList s [] fun acc s' => chk ops acc.reverse = true ∧ Q .normal s'
  | .seq a b, s, Q => wp c R nb a s (thenK (fun s' => wp c R nb b s' Q) Q)
  | .cond q a b, s, Q => boolK (wp c R nb a s Q) (wp c R nb b s Q) (s.get q)
  | .block id a, s, Q => wp c R nb a s (blockK id Q)
  | .loop a, s, Q => ∃ s0, Weak nb s s0 ∧ ∃ n, iterK (wp c R nb a) nb n s0 Q
  | .exit id, s, Q => Q (.exit id) s
  | .ret, s, Q => Q .ret s
  | _, _, _ => False

/-! A function's end -/
def resVals (P : Program) (s : St) : List ResultVar → Option (List V)
  | [] => some []
  | .tmp t :: r => match resVals P s r with
    | some vs => some (lookE s.env t :: vs)
    | none => none
  | .cell a t :: r => match mkTy P t with
    | some ty => match loadV s.mem ty (lookE s.env a), resVals P s r with
      | some v, some vs => some (v :: vs)
      | _, _ => none
    | none => none
def elemSize (P : Program) (t : TypeId) : Option (TypeId × Nat) :=
  match mkTy P t with
  | some { u := .slice e, .. } => match mkTy P e with
    | some ty => if ty.size = 0 then none else some (e, ty.size)
    | none => none
  | _ => none
def resV (P : Program) (m : Mem) (t : TypeId) (v : V) : V × Mem :=
  match v with
  | .nilsl => match elemSize P t with
    | some (e, sz) => (.osl m.toks.length, { m with toks := m.toks ++ [.live e sz []] })
    | none => (.nilsl, m)
  | .osl k => ((V.osl k).norm m, m)
  | .ptr b o => (.ptr b o, m)
  | v => ((settle m v).2, (settle m v).1)
def resL (P : Program) : Mem → List TypeId → List V → List V × Mem
  | m, _, [] => ([], m)
  | m, [], vs => (vs, m)
  | m, t :: ts, v :: vs => ((resV P m t v).1 :: (resL P (resV P m t v).2 ts vs).1, (resL P (resV P m t v).2 ts vs).2)
def oneV : List V → V
  | [v] => v
  | vs => .tuple vs
def fin (P : Program) (rs : List ResultVar) (rts : List TypeId) (nb : Nat) (s : St) : Option (V × Mem) :=
  match resVals P s rs with
  | some vs =>
    let p := resL P s.mem rts vs
    let r := oneV p.1
    let ids := gcIds nb p.2 [r]
    let ks := gcKs p.2 ids [r]
    some (r.ren (idx ids) (idx ks), subMem p.2 ids ks)
  | none => none
def argE : Nat → List V → List (Nat × V)
  | _, [] => []
  | i, v :: r => (i, v) :: argE (i + 1) r
/-- Each temporary that is written lies in the frame. -/
def tmpsOk (n : Nat) : Code → Bool
  | .region _ ops _ => ops.all fun o => match o.dst with
    | some t => decide (t < n)
    | none => true
  | .seq a b => tmpsOk n a && tmpsOk n b
  | .cond _ a b => tmpsOk n a && tmpsOk n b
  | .block _ a => tmpsOk n a
  | .loop a => tmpsOk n a
  | _ => true
def okFn (fn : Func) (body : Code) : Bool := fn.name != "runtime.NumGoroutine" && tmpsOk fn.ntmps body
def Body (c : Cfg) (R : CallRel) (g : FuncId) (args : List V) (m : Mem) (r : V) (m' : Mem) : Prop :=
  ∃ fn body, c.P.funcs[g]? = some fn ∧ fn.body = some body ∧ args.length ≤ fn.ntmps ∧ okFn fn body = true ∧
    wp c R m.blks.length body ⟨argE 0 args, m⟩ fun e s => (e = .normal ∨ e = .ret) ∧ fin c.P fn.results.toList fn.resultTypes.toList m.blks.length s = some (r, m')
/-- The least relation that holds what X tells and is closed under the functions' bodies. -/
def Run (c : Cfg) (X : CallRel) (g : FuncId) (args : List V) (m : Mem) (r : V) (m' : Mem) : Prop :=
  ∀ R : CallRel, (∀ g a m r m', X g a m r m' → R g a m r m') → (∀ g a m r m', Body c R g a m r m' → R g a m r m') → R g args m r m'

/-! Monotony -/
theorem lookK_mono {k z : V} {K K' : V → Prop} (h : ∀ v, K v → K' v) : ∀ es, lookK k z K es → lookK k z K' es := by
  intro es
  induction es with
  | nil => exact h _
  | cons e r ih =>
    obtain ⟨k', v⟩ := e
    simp only [lookK]
    split
    · exact fun ⟨h1, h2⟩ => ⟨fun hp => h _ (h1 hp), fun hn => ih (h2 hn)⟩
    · exact id
theorem boolK_mono {v : V} {p q p' q' : Prop} (hp : p → p') (hq : q → q') : boolK p q v → boolK p' q' v := by
  unfold boolK
  split
  · exact fun ⟨h1, h2⟩ => ⟨fun t => hp (h1 t), fun t => hq (h2 t)⟩
  · exact id
theorem guardK_mono {v : V} {w : Bool} {p q p' q' : Prop} (hp : p → p') (hq : q → q') : guardK p q v w → guardK p' q' v w := by
  unfold guardK
  split
  · exact fun ⟨h1, h2⟩ => ⟨fun t => hp (h1 t), fun t => hq (h2 t)⟩
  · exact hq
  · exact id
theorem effK_mono {e : Option Eff} {k : Cls} {K K' : Cls → V → Mem → Prop} (h : ∀ k v m, K k v m → K' k v m) : effK K e k → effK K' e k := by
  unfold effK
  split
  · exact fun ⟨h1, h2⟩ => ⟨h1, h _ _ _ h2⟩
  · exact id
theorem stepK_mono {c : Cfg} {R R' : CallRel} (hR : ∀ g a m r m', R g a m r m' → R' g a m r m') {all : List Oper} {o : Oper} {s : St} {K K' : Cls → V → Mem → Prop} (h : ∀ k v m, K k v m → K' k v m) :
    stepK c R all o s K → stepK c R' all o s K' := by
  unfold stepK
  split
  · exact boolK_mono (h _ _ _) (h _ _ _)
  · unfold callK
    split
    · split
      · exact fun ⟨h1, h2, k, e, sz, xs, ys, h3, h4, h5, h6⟩ => ⟨h1, h2, k, e, sz, xs, ys, h3, h4, h5, h _ _ _ h6⟩
      · exact fun ⟨r, m', h1, h2⟩ => ⟨r, m', hR _ _ _ _ _ h1, h _ _ _ h2⟩
    · exact id
  · exact effK_mono h
theorem wpOps_mono {c : Cfg} {R R' : CallRel} (hR : ∀ g a m r m', R g a m r m' → R' g a m r m') {all : List Oper} {draw : Bool} : ∀ (os : List Oper) {s : St} {acc : List Cls} {K K' : List Cls → St → Prop},
    (∀ a s, K a s → K' a s) → wpOps c R all draw os s acc K → wpOps c R' all draw os s acc K' := by
  intro os
  induction os with
  | nil => exact fun h => h _ _
  | cons o os ih =>
    intro s acc K K' h
    simp only [wpOps]
    split
    · exact stepK_mono hR fun k v m => ih h
    · exact guardK_mono (stepK_mono hR fun k v m => ih h) (ih h)
theorem iterK_mono {B B' : St → (Ex → St → Prop) → Prop} {nb : Nat} (hB : ∀ s Q Q', (∀ e s, Q e s → Q' e s) → B s Q → B' s Q') : ∀ n s Q Q', (∀ e s, Q e s → Q' e s) → iterK B nb n s Q → iterK B' nb n s Q' := by
  intro n
  induction n with
  | zero => exact fun _ _ _ _ h => h
  | succ n ih =>
    intro s Q Q' h
    simp only [iterK]
    refine hB _ _ _ fun e s => ?_
    cases e with
    | normal => exact fun ⟨s'', h1, h2⟩ => ⟨s'', h1, ih _ _ _ h h2⟩
    | exit id => exact h _ _
    | ret => exact h _ _
theorem wp_mono {c : Cfg} {R R' : CallRel} (hR : ∀ g a m r m', R g a m r m' → R' g a m r m') {nb : Nat} : ∀ (cd : Code) (s : St) (Q Q' : Ex → St → Prop), (∀ e s, Q e s → Q' e s) → wp c R nb cd s Q → wp c R' nb cd s Q' := by
  intro cd
  induction cd with
  | skip => exact fun s Q Q' h => h _ _
  | region id ops draw =>
    intro s Q Q' h
    cases draw with
    | false => exact wpOps_mono hR _ fun a s => h _ _
    | true => exact wpOps_mono hR _ fun a s ⟨h1, h2⟩ => ⟨h1, h _ _ h2⟩
  | seq a b iha ihb =>
    intro s Q Q' h
    simp only [wp]
    refine iha _ _ _ fun e s => ?_
    cases e with
    | normal => exact ihb _ _ _ h
    | exit id => exact h _ _
    | ret => exact h _ _
  | cond q a b iha ihb =>
    intro s Q Q' h
    exact boolK_mono (iha _ _ _ h) (ihb _ _ _ h)
  | block id a ih =>
    intro s Q Q' h
    simp only [wp]
    refine ih _ _ _ fun e s => ?_
    cases e with
    | exit i =>
      simp only [blockK]
      split <;> exact h _ _
    | normal => exact h _ _
    | ret => exact h _ _
  | loop a ih =>
    intro s Q Q' h
    simp only [wp]
    exact fun ⟨s0, h1, n, h2⟩ => ⟨s0, h1, n, iterK_mono (fun s Q Q' => ih s Q Q') n _ _ _ h h2⟩
  | exit id => exact fun s Q Q' h => h _ _
  | ret => exact fun s Q Q' h => h _ _
  | _ => exact fun s Q Q' h hh => hh.elim
theorem Body_mono {c : Cfg} {R R' : CallRel} (hR : ∀ g a m r m', R g a m r m' → R' g a m r m') {g a m r m'} : Body c R g a m r m' → Body c R' g a m r m' :=
  fun ⟨fn, body, h1, h2, h3, h3', h4⟩ => ⟨fn, body, h1, h2, h3, h3', wp_mono hR _ _ _ _ (fun _ _ h => h) h4⟩
/-- A call is shown by walking the body, its own calls being 'Run's. -/
theorem Run.intro {c : Cfg} {X : CallRel} {g a m r m'} (h : Body c (Run c X) g a m r m') : Run c X g a m r m' :=
  fun R hX hB => hB _ _ _ _ _ (Body_mono (fun g a m r m' hr => hr R hX hB) h)
theorem Run.fn {c : Cfg} {X : CallRel} {g a m r m'} (rs : List ResultVar) (rts : List TypeId) {fn : Func} {body : Code} (h1 : c.P.funcs[g]? = some fn) (h2 : fn.body = some body) (h3 : a.length ≤ fn.ntmps)
    (h4 : fn.results.toList = rs) (h5 : fn.resultTypes.toList = rts) (h6 : okFn fn body = true)
    (h : wp c (Run c X) m.blks.length body ⟨argE 0 a, m⟩ fun e s => (e = .normal ∨ e = .ret) ∧ fin c.P rs rts m.blks.length s = some (r, m')) : Run c X g a m r m' := by
  subst h4 h5
  exact Run.intro ⟨fn, body, h1, h2, h3, h6, h⟩
theorem Run.ext {c : Cfg} {X : CallRel} {g a m r m'} (h : X g a m r m') : Run c X g a m r m' := fun _ hX _ => hX _ _ _ _ _ h
/-- A loop by a measure. -/
theorem loop_ind {B : St → (Ex → St → Prop) → Prop} (hB : ∀ s Q Q', (∀ e s, Q e s → Q' e s) → B s Q → B s Q') {nb : Nat} {Q : Ex → St → Prop} (I : Nat → St → Prop)
    (h : ∀ n s, I n s → B s fun e s' => match e with
      | .normal => ∃ s'' k, k < n ∧ Weak nb s' s'' ∧ I k s''
      | e => Q e s') : ∀ n s, I n s → ∃ k, iterK B nb k s Q := by
  have up : ∀ k s, iterK B nb k s Q → ∀ j, k ≤ j → iterK B nb j s Q := by
    intro k
    induction k with
    | zero => exact fun _ h => h.elim
    | succ k ih =>
      intro s h j hj
      obtain ⟨j, rfl⟩ : ∃ i, j = i + 1 := ⟨j - 1, by omega⟩
      simp only [iterK] at h ⊢
      refine hB _ _ _ (fun e s' => ?_) h
      cases e with
      | normal => exact fun ⟨s'', h1, h2⟩ => ⟨s'', h1, ih _ h2 _ (by omega)⟩
      | exit id => exact fun h => h
      | ret => exact fun h => h
  have main : ∀ n s, I n s → iterK B nb (n + 1) s Q := by
    intro n
    induction n using Nat.strongRecOn with
    | _ n ih =>
      intro s hs
      simp only [iterK]
      refine hB _ _ _ (fun e s' => ?_) (h n s hs)
      cases e with
      | normal => exact fun ⟨s'', k, hk, h1, h2⟩ => ⟨s'', h1, up _ _ (ih k hk _ h2) _ (by omega)⟩
      | exit id => exact fun h => h
      | ret => exact fun h => h
  exact fun n s hs => ⟨_, main n s hs⟩
end Go.Vm
