/- The abstract machine on values without addresses: what the program's operations compute, memory seen as trees and named arrays. No Go and no memory here. -/
import GoSem.Core.Value
import GoSem.Core.Ast
import GoSem.Op.String
namespace Go.Proofs.Ytfebkfeobdffjaa
open Go

/-- How a slice's content is held: by this place alone; for good, and written by nobody; on loan for the whole call; on loan until the next write. -/
inductive Md where
  | own
  | imm
  | bor
  | snap (e : Nat)

inductive AV where
  | any
  | bool (b : Bool)
  | int (k : IntKind) (n : Int)
  | str (s : ByteArray)
  | sl (m : Md) (sz : Nat) (xs : List (List AV))
  | ref (id : Nat)
  | view (id lo len : Nat)
  | ptr (id i off : Nat)
  | bptr (m : Md) (row : List AV) (off : Nat)
  | agg (cs : List AV)
  | tup (vs : List AV)
  | cellp (cells : List AV)
  | mapr (id : Nat)
  | fn (k : Nat)
  | inn (e id i off : Nat)

/-- An array or a variable of the call's own. -/
inductive AO where
  | box (cells : List AV)
  | arr (sz : Nat) (xs : List (List AV))
  | map (kb : Bool) (kvs : List (ByteArray × AV))

/-- 'base' arrays and variables came with the call: the numbers below it. -/
structure St where
  slots : Nat → AV
  heap : Nat → Option AO
  ep : Nat
  next : Nat
  base : Nat

def upd {α : Type} (f : Nat → α) (k : Nat) (v : α) : Nat → α := fun j => if j = k then v else f j

/-- The kinds of a plain struct's cells. -/
inductive CK where
  | i
  | s
  | b
  deriving DecidableEq

inductive Opd where
  | tmp (t : Nat)
  | const (v : AV)

inductive Hint where
  | plain
  | take
  | share

inductive COp where
  | mov (x : Opd)
  | nilck (x : Opd)
  | pick (c a b : Opd)
  | bin (op : BinOp) (x y : Opd)
  | beq (neg : Bool) (x y : Opd)
  | eqs (neg : Bool) (ks : List CK) (x y : Opd)
  | un (op : UnOp) (x : Opd)
  | conv (k : IntKind) (x : Opd)
  | toStr (x : Opd)
  | sconv (x : Opd)
  | alloc (zs : List AV)
  | box (x : Opd)
  | build (zs : List AV) (parts : List (Nat × Nat × Opd))
  | bslice (sz : Nat) (zs : List AV) (len : Nat) (parts : List (Nat × Opd))
  | mksl (sz : Nat) (zs : List AV) (bytes : Nat) (l : Opd)
  | load (x : Opd) (sz : Nat) (agg : Bool) (hint : Hint)
  | store (a x : Opd) (sz : Nat)
  | faddr (x : Opd) (off : Nat)
  | iaddr (sz : Nat) (x i : Opd)
  | sidx (x i : Opd)
  | slice (sz : Nat) (x : Opd) (lo hi : Option Opd)
  | sslice (x : Opd) (lo hi : Option Opd)
  | len (str : Bool) (x : Opd)
  | append (sz bytes : Nat) (flat : Bool) (s x : Opd)
  | ext (x : Opd) (i : Nat)
  | mx (hi : Bool) (x y : Opd)
  | mkmap (kb : Bool)
  | lookup (kb : Bool) (z : AV) (m k : Opd)
  | mapset (kb : Bool) (m k v : Opd)
  | call (k : Nat) (modes : List Bool) (args : List Opd)
  | callf (f : Opd) (modes : List Bool) (args : List Opd)
  | callin (k : Nat) (x : Opd) (args : List Opd)

structure CIns where
  dst : Option Nat
  op : COp
  guard : Option (Nat × Bool)

inductive CCode where
  | skip
  | region (ops : List CIns) (keep : List Nat)
  | quiet (ops : List CIns) (keep : List Nat)
  | loud (ops : List CIns) (deps : List Nat) (keep : List Nat)
  | seq (a b : CCode)
  | cond (c : Opd) (thn els : CCode)
  | block (id : Nat) (body : CCode)
  | loop (keep : List Nat) (body : CCode)
  | exit (id : Nat)
  | ret

inductive CRes where
  | tmp (t : Nat)
  | cell (t : Nat) (sz : Nat) (agg : Bool)

structure CFn where
  nt : Nat
  res : List CRes
  body : CCode

inductive AExit where
  | normal
  | exit (id : Nat)
  | ret

/-! ### Small helpers -/
def Opd.ev (g : Nat → AV) : Opd → AV
  | .tmp t => g t
  | .const v => v

/-- The cells of a value that can be stored. -/
def AV.parts : AV → Option (List AV)
  | .agg cs => some cs
  | .any => none
  | .tup _ => none
  | .cellp _ => none
  | v => some [v]

def AV.lend (m : Md) : AV → AV
  | .sl _ sz xs => .sl m sz xs
  | v => v

/-- A cell of an array of the call's own, as it is read: what the array owns is on loan. -/
def AV.lendO (ep : Nat) : AV → AV
  | .sl .own sz xs => .sl (.snap ep) sz xs
  | v => v

def Md.ok (ep : Nat) : Md → Bool
  | .own => false
  | .imm => true
  | .bor => true
  | .snap e => e == ep

def Md.isSnap : Md → Bool
  | .snap _ => true
  | _ => false

def distinct : List Nat → Bool
  | [] => true
  | i :: is => !(is.contains i) && distinct is

def kill (is : List Nat) : List (Nat × Option AO) := is.map fun i => (i, none)

/-- 'vs' laid over 'cs' from 'off' on. -/
def lay (cs : List AV) (off : Nat) (vs : List AV) : List AV := cs.take off ++ (vs ++ cs.drop (off + vs.length))

/-- A slot's value as the cell of an array: an array of the call's own moves in; the numbers of the arrays that moved. -/
def absorb1 (h : Nat → Option AO) : AV → Option (AV × List Nat)
  | .ref id => match h id with
    | some (.arr sz xs) => some (.sl .own sz xs, [id])
    | _ => none
  | .bool b => some (.bool b, [])
  | .int k n => some (.int k n, [])
  | .str s => some (.str s, [])
  | .sl .own sz [] => some (.sl .own sz [], [])
  | .sl .imm sz xs => some (.sl .imm sz xs, [])
  | _ => none

def absorb (h : Nat → Option AO) : List AV → Option (List AV × List Nat)
  | [] => some ([], [])
  | c :: cs => match absorb1 h c with
    | none => none
    | some (d, i) => match absorb h cs with
      | none => none
      | some (ds, is) => some (d :: ds, i ++ is)

/-- An operation's outcome: its value; what it writes into memory ('none': the array is gone); whether loans end. -/
structure Out where
  v : AV
  ws : List (Nat × Option AO)
  bump : Bool

def Out.val (v : AV) : Option Out := some ⟨v, [], false⟩
def Out.opt : Option AV → Option Out
  | some v => some ⟨v, [], false⟩
  | none => none

def sEq (x y : ByteArray) : Bool := x.toList == y.toList
def sLt (x y : ByteArray) : Bool := Op.bytesLess x.toList y.toList

def binInt (op : BinOp) (k : IntKind) (a b : Int) : Option AV :=
  match op with
  | .add => some (.int k (k.wrap (a + b)))
  | .sub => some (.int k (k.wrap (a - b)))
  | .mul => some (.int k (k.wrap (a * b)))
  | .quo => if b = 0 then none else some (.int k (k.wrap (a.tdiv b)))
  | .rem => if b = 0 then none else some (.int k (a.tmod b))
  | .xor => some (.int k (k.wrap (BitVec.ofInt k.bits a ^^^ BitVec.ofInt k.bits b).toNat))
  | .eql => some (.bool (a == b))
  | .neq => some (.bool (a != b))
  | .lss => some (.bool (decide (a < b)))
  | .leq => some (.bool (decide (a ≤ b)))
  | .gtr => some (.bool (decide (a > b)))
  | .geq => some (.bool (decide (a ≥ b)))
  | _ => none

def binStr (op : BinOp) (x y : ByteArray) : Option AV :=
  match op with
  | .add => if x.size + y.size ≤ 9223372036854775807 then some (.str (x ++ y)) else none
  | .eql => some (.bool (sEq x y))
  | .neq => some (.bool (!sEq x y))
  | .lss => some (.bool (sLt x y))
  | .leq => some (.bool (sLt x y || sEq x y))
  | .gtr => some (.bool (!(sLt x y || sEq x y)))
  | .geq => some (.bool (!sLt x y))
  | _ => none

def binAV (op : BinOp) : AV → AV → Option AV
  | .int k a, .int k' b => match op with
    | .shl => if b < 0 then none else some (.int k (k.wrap (a * 2 ^ min b.toNat k.bits)))
    | .shr => if b < 0 then none else some (.int k (a.fdiv (2 ^ min b.toNat k.bits)))
    | op => if k = k' then binInt op k a b else none
  | .str x, .str y => binStr op x y
  | _, _ => none

def eqCell : CK → AV → AV → Option Bool
  | .i, .int k a, .int k' b => if k = k' then some (a == b) else none
  | .s, .str x, .str y => some (sEq x y)
  | .b, .bool a, .bool b => some (a == b)
  | _, _, _ => none

def eqCells : List CK → List AV → List AV → Option Bool
  | [], [], [] => some true
  | k :: ks, c :: cs, d :: ds => match eqCell k c d with
    | some true => eqCells ks cs ds
    | some false => if ks.length = cs.length ∧ ks.length = ds.length then some false else none
    | none => none
  | _, _, _ => none

/-- The content of a slice, as far as it may be read now. -/
def content (h : Nat → Option AO) (ep : Nat) : AV → Option (Nat × List (List AV))
  | .ref id => match h id with
    | some (.arr sz xs) => some (sz, xs)
    | _ => none
  | .view id lo len => match h id with
    | some (.arr sz xs) => if lo + len ≤ xs.length then some (sz, (xs.drop lo).take len) else none
    | _ => none
  | .sl .own sz [] => some (sz, [])
  | .sl m sz xs => if m.ok ep then some (sz, xs) else none
  | _ => none

/-- The number of the array that a slot's value looks at. -/
def AV.id? : AV → List Nat
  | .ref id => [id]
  | .view id _ _ => [id]
  | .ptr id _ _ => [id]
  | .mapr id => [id]
  | .inn _ id _ _ => [id]
  | _ => []

/-! ### Calls: arguments out, results in -/
def lend1 (h : Nat → Option AO) (ep : Nat) : AV → Option AV
  | .bool b => some (.bool b)
  | .int k n => some (.int k n)
  | .str s => some (.str s)
  | .fn k => some (.fn k)
  | .sl .imm sz xs => some (.sl .imm sz xs)
  | v => match content h ep v with
    | some (sz, xs) => some (.sl .bor sz xs)
    | none => none

def lendL (h : Nat → Option AO) (ep : Nat) : List AV → Option (List AV)
  | [] => some []
  | c :: cs => match lend1 h ep c with
    | none => none
    | some d => match lendL h ep cs with
      | none => none
      | some ds => some (d :: ds)

def lendV (h : Nat → Option AO) (ep : Nat) : AV → Option AV
  | .agg cs => match lendL h ep cs with
    | some ds => some (.agg ds)
    | none => none
  | v => lend1 h ep v

/-- What is given away with a call: the value under the callee's numbers from n on; the arrays' own numbers; the arrays. -/
def give1 (h : Nat → Option AO) (n : Nat) : AV → Option (AV × List Nat × List AO)
  | .bool b => some (.bool b, [], [])
  | .int k m => some (.int k m, [], [])
  | .str s => some (.str s, [], [])
  | .sl .own sz [] => some (.sl .own sz [], [], [])
  | .sl .imm sz xs => some (.sl .imm sz xs, [], [])
  | .ref id => match h id with
    | some (.arr sz xs) => some (.ref n, [id], [.arr sz xs])
    | _ => none
  | _ => none

def giveL (h : Nat → Option AO) (n : Nat) : List AV → Option (List AV × List Nat × List AO)
  | [] => some ([], [], [])
  | c :: cs => match give1 h n c with
    | none => none
    | some (d, is, os) => match giveL h (n + is.length) cs with
      | none => none
      | some (ds, js, ps) => some (d :: ds, is ++ js, os ++ ps)

def giveV (h : Nat → Option AO) (n : Nat) : AV → Option (AV × List Nat × List AO)
  | .agg cs => match giveL h n cs with
    | some (ds, is, os) => some (.agg ds, is, os)
    | none => none
  | .ptr id 0 0 => match h id with
    | some (.box cells) => match giveL h (n + 1) cells with
      | some (ds, is, os) => some (.ptr n 0 0, id :: is, .box ds :: os)
      | none => none
    | _ => none
  | v => give1 h n v

/-- What a value on loan looks at. -/
def AV.ids : AV → List Nat
  | .agg cs => cs.flatMap AV.id?
  | v => v.id?

def AV.snaps1 : AV → Bool
  | .sl m _ _ => m.isSnap
  | .inn .. => true
  | _ => false
def AV.snaps : AV → Bool
  | .agg cs => cs.any AV.snaps1
  | v => v.snaps1

structure Given where
  args : List AV
  ids : List Nat
  objs : List AO
  looks : List Nat
  snaps : Bool

def passArgs (h : Nat → Option AO) (ep : Nat) (n : Nat) : List Bool → List AV → Option Given
  | true :: ms, v :: vs => match giveV h n v with
    | none => none
    | some (d, is, os) => match passArgs h ep (n + is.length) ms vs with
      | none => none
      | some g => some ⟨d :: g.args, is ++ g.ids, os ++ g.objs, g.looks, g.snaps⟩
  | false :: ms, v :: vs => match lendV h ep v with
    | none => none
    | some d => match passArgs h ep n ms vs with
      | none => none
      | some g => some ⟨d :: g.args, g.ids, g.objs, v.ids ++ g.looks, v.snaps || g.snaps⟩
  | [], [] => some ⟨[], [], [], [], false⟩
  | _, _ => none

/-- A result comes in: each array of its own gets a number, from 'key' on; how many. -/
def open1 (key : Nat) : AV → AV × List (Nat × Option AO)
  | .sl .own sz xs => (.ref key, [(key, some (.arr sz xs))])
  | v => (v, [])

def openL (key : Nat) : List AV → List AV × List (Nat × Option AO)
  | [] => ([], [])
  | c :: cs => ((open1 key c).1 :: (openL (key + (open1 key c).2.length) cs).1, (open1 key c).2 ++ (openL (key + (open1 key c).2.length) cs).2)

def openV (key : Nat) : AV → AV × List (Nat × Option AO)
  | .agg cs => (.agg (openL key cs).1, (openL key cs).2)
  | .cellp cs => (.ptr key 0 0, (key, some (.box (openL (key + 1) cs).1)) :: (openL (key + 1) cs).2)
  | v => open1 key v

def openT (key : Nat) : List AV → List AV × List (Nat × Option AO)
  | [] => ([], [])
  | c :: cs => ((openV key c).1 :: (openT (key + (openV key c).2.length) cs).1, (openV key c).2 ++ (openT (key + (openV key c).2.length) cs).2)

def openR (key : Nat) : AV → AV × List (Nat × Option AO)
  | .tup vs => (.tup (openT key vs).1, (openT key vs).2)
  | v => openV key v

/-- What was given away comes back as the callee left it: under the old numbers, and what was in variables under new ones. -/
def takeBack (key : Nat) : List Nat → List (Option AO) → List (Nat × Option AO) × List (Nat × Option AO)
  | id :: is, o :: os => match o with
    | some (.box cells) => ((id, some (.box (openL key cells).1)) :: (takeBack (key + (openL key cells).2.length) is os).1, (openL key cells).2 ++ (takeBack (key + (openL key cells).2.length) is os).2)
    | o => ((id, o) :: (takeBack key is os).1, (takeBack key is os).2)
  | _, _ => ([], [])

/-- The functions' own table: arguments, the arrays given with them; the result, the arrays behind the call. -/
abbrev Callee := Nat → List AV → List AO → Option (AV × List (Option AO))

def semCall (cl : Callee) (k : Nat) (modes : List Bool) (vs : List AV) (key : Nat) (h : Nat → Option AO) (ep : Nat) : Option Out :=
  match passArgs h ep 0 modes vs with
  | none => none
  | some g =>
    if distinct g.ids && g.ids.all (fun i => !g.looks.contains i) && (g.ids.isEmpty || !g.snaps) then
      match cl k g.args g.objs with
      | none => none
      | some (r, outs) =>
        if outs.length = g.ids.length then
          let back := takeBack (key + (openR key r).2.length) g.ids outs
          if (openR key r).2.length + back.2.length ≤ 64 then some ⟨(openR key r).1, back.1 ++ ((openR key r).2 ++ back.2), !g.ids.isEmpty⟩ else none
        else none
    else none

def evL (g : Nat → AV) : List Opd → List AV
  | [] => []
  | o :: os => o.ev g :: evL g os

/-! ### The operations -/
def fillParts (g : Nat → AV) : List AV → List (Nat × Nat × Opd) → Option (List AV)
  | cs, [] => some cs
  | cs, (off, n, x) :: ps => match (x.ev g).parts with
    | some vs => if vs.length = n ∧ off + n ≤ cs.length then fillParts g (lay cs off vs) ps else none
    | none => none

def fillRows (h : Nat → Option AO) (g : Nat → AV) (sz : Nat) : List (List AV) → List (Nat × Opd) → Option (List (List AV) × List Nat)
  | rows, [] => some (rows, [])
  | rows, (i, x) :: ps => match (x.ev g).parts with
    | none => none
    | some vs => match absorb h vs with
      | none => none
      | some (row, is) => if row.length = sz ∧ i < rows.length then
          match fillRows h g sz (rows.set i row) ps with
          | none => none
          | some (rs, js) => some (rs, is ++ js)
        else none

def toBytes : List (List AV) → Option (List UInt8)
  | [] => some []
  | [.int .u8 n] :: r => match toBytes r with
    | some bs => some (UInt8.ofNat n.toNat :: bs)
    | none => none
  | _ => none

def loadFrom (cs : List AV) (off sz : Nat) (agg : Bool) : Option AV :=
  if agg then (if off + sz ≤ cs.length then some (.agg ((cs.drop off).take sz)) else none) else cs[off]?

def lendA (m : Md) : AV → AV
  | .agg cs => .agg (cs.map (AV.lend m))
  | v => v.lend m

def lendAO (ep : Nat) : AV → AV
  | .agg cs => .agg (cs.map (AV.lendO ep))
  | v => v.lendO ep

def slBounds (lo hi : Option AV) (n : Nat) : Option (Nat × Nat) :=
  match hi with
  | some (.int _ b) => match lo with
    | some (.int _ a) => if 0 ≤ a ∧ a ≤ b ∧ b ≤ n then some (a.toNat, b.toNat) else none
    | none => if 0 ≤ b ∧ b ≤ n then some (0, b.toNat) else none
    | _ => none
  | none => match lo with
    | some (.int _ a) => if 0 ≤ a ∧ a ≤ n then some (a.toNat, n) else none
    | none => some (0, n)
    | _ => none
  | _ => none

def AV.plain : AV → Bool
  | .bool _ => true
  | .int _ _ => true
  | .str _ => true
  | _ => false

/-- Rows of numbers, texts and truth values alone. -/
def rowsPlain (xs : List (List AV)) : Bool := xs.all fun row => row.all AV.plain

/-- The rows that an append takes over: copied, or moved out of an array of one's own. -/
def takeRows (h : Nat → Option AO) (ep : Nat) (flat : Bool) (x : AV) : Option (Nat × List (List AV) × List (Nat × Option AO)) :=
  match flat, x with
  | false, .ref id => match h id with
    | some (.arr sz xs) => some (sz, xs, [(id, none)])
    | _ => none
  | false, .view id lo len => match h id with
    | some (.arr sz xs) => if lo + len ≤ xs.length then
        some (sz, (xs.drop lo).take len, [(id, some (.arr sz (xs.take lo ++ (List.replicate len (List.replicate sz .any) ++ xs.drop (lo + len)))))])
      else none
    | _ => none
  | false, .sl .own sz [] => some (sz, [], [])
  | false, _ => none
  | true, x => match content h ep x with
    | some (sz, xs) => if rowsPlain xs then some (sz, xs, []) else none
    | none => none

/-- A map's key: a text, or a truth value as a text of one byte. -/
def bkey (b : Bool) : ByteArray := if b then ⟨#[1]⟩ else ⟨#[0]⟩
def keyOf : Bool → AV → Option ByteArray
  | false, .str s => some s
  | true, .bool b => some (bkey b)
  | _, _ => none

def mapGet (k : ByteArray) : List (ByteArray × AV) → Option AV
  | [] => none
  | (k', v) :: r => if sEq k k' then some v else mapGet k r

def mapPut (k : ByteArray) (v : AV) : List (ByteArray × AV) → List (ByteArray × AV)
  | [] => [(k, v)]
  | (k', v') :: r => if sEq k k' then (k, v) :: r else (k', v') :: mapPut k v r

def sem (cl : Callee) (o : COp) (key : Nat) (g : Nat → AV) (h : Nat → Option AO) (ep : Nat) : Option Out :=
  match o with
  | .mov x => Out.val (x.ev g)
  | .nilck x => match x.ev g with
    | .ptr id i off => match h id with
      | some (.box _) => Out.val (.ptr id i off)
      | some (.arr _ _) => Out.val (.ptr id i off)
      | _ => none
    | .bptr m row off => if m.ok ep then Out.val (.bptr m row off) else none
    | _ => none
  | .pick c a b => match c.ev g with
    | .bool t => Out.val (if t then a.ev g else b.ev g)
    | _ => none
  | .bin op x y => Out.opt (binAV op (x.ev g) (y.ev g))
  | .beq neg x y => match x.ev g, y.ev g with
    | .bool a, .bool b => Out.val (.bool (if neg then !(a == b) else a == b))
    | _, _ => none
  | .eqs neg ks x y => match x.ev g, y.ev g with
    | .agg cs, .agg ds => match eqCells ks cs ds with
      | some b => Out.val (.bool (if neg then !b else b))
      | none => none
    | _, _ => none
  | .un op x => match op, x.ev g with
    | .not, .bool b => Out.val (.bool !b)
    | .neg, .int k n => Out.val (.int k (k.wrap (0 - n)))
    | _, _ => none
  | .conv k x => match x.ev g with
    | .int _ n => Out.val (.int k (k.wrap n))
    | _ => none
  | .toStr x => match content h ep (x.ev g) with
    | some (_, xs) => match toBytes xs with
      | some bs => Out.val (.str ⟨bs.toArray⟩)
      | none => none
    | none => none
  | .sconv x => match x.ev g with
    | .str s => Out.val (.str s)
    | _ => none
  | .alloc zs => some ⟨.ptr key 0 0, [(key, some (.box zs))], false⟩
  | .box x => match (x.ev g).parts with
    | some vs => some ⟨.ptr key 0 0, [(key, some (.box vs))], false⟩
    | none => none
  | .build zs parts => match fillParts g zs parts with
    | some cs => Out.val (.agg cs)
    | none => none
  | .bslice sz zs len parts => match fillRows h g sz (List.replicate len zs) parts with
    | some (rows, is) => if distinct is then some ⟨.ref key, (key, some (.arr sz rows)) :: kill is, false⟩ else none
    | none => none
  | .mksl sz zs bytes l => match l.ev g with
    | .int .i64 n => if 0 ≤ n ∧ n * bytes ≤ 140737488355328 then some ⟨.ref key, [(key, some (.arr sz (List.replicate n.toNat zs)))], false⟩ else none
    | _ => none
  | .load x sz agg hint => match x.ev g with
    | .ptr id i off => match h id with
      | some (.box cells) => if i = 0 then Out.opt (loadFrom cells off sz agg) else none
      | some (.arr sz' xs) => match xs[i]? with
        | none => none
        | some row => match hint with
          | .plain => match loadFrom row off sz agg with
            | some v => Out.val (lendAO ep v)
            | none => none
          | .take => match row[off]? with
            | some (.sl .own sz2 ys) => some ⟨.ref key, [(id, some (.arr sz' (xs.set i (row.set off .any)))), (key, some (.arr sz2 ys))], true⟩
            | _ => none
          | .share => match row[off]? with
            | some (.sl .own _ _) => Out.val (.inn ep id i off)
            | _ => none
      | _ => none
    | .bptr m row off => if m.ok ep then (match loadFrom row off sz agg with
      | some v => Out.val (lendA m v)
      | none => none) else none
    | _ => none
  | .store a x sz => match a.ev g, (x.ev g).parts with
    | .ptr id i off, some vs => if vs.length = sz then match h id with
      | some (.box cells) => if i = 0 ∧ off + sz ≤ cells.length then some ⟨.any, [(id, some (.box (lay cells off vs)))], false⟩ else none
      | some (.arr sz' xs) => match xs[i]? with
        | none => none
        | some row => match absorb h vs with
          | none => none
          | some (us, is) => if off + sz ≤ row.length ∧ distinct (id :: is) then
              some ⟨.any, (id, some (.arr sz' (xs.set i (lay row off us)))) :: kill is, true⟩ else none
      | _ => none
      else none
    | _, _ => none
  | .faddr x n => match x.ev g with
    | .ptr id i off => match h id with
      | some (.box _) => Out.val (.ptr id i (off + n))
      | some (.arr _ _) => Out.val (.ptr id i (off + n))
      | _ => none
    | .bptr m row off => if m.ok ep then Out.val (.bptr m row (off + n)) else none
    | _ => none
  | .iaddr sz x i => match i.ev g with
    | .int _ n => if 0 ≤ n then match x.ev g with
      | .ref id => match h id with
        | some (.arr sz' xs) => if n.toNat < xs.length ∧ sz' = sz then Out.val (.ptr id n.toNat 0) else none
        | _ => none
      | .view id lo len => match h id with
        | some (.arr sz' xs) => if n.toNat < len ∧ lo + len ≤ xs.length ∧ sz' = sz then Out.val (.ptr id (lo + n.toNat) 0) else none
        | _ => none
      | .sl m sz' xs => if m.ok ep ∧ sz' = sz then match xs[n.toNat]? with
        | some row => Out.val (.bptr m row 0)
        | none => none
        else none
      | _ => none
      else none
    | _ => none
  | .sidx x i => match x.ev g, i.ev g with
    | .str s, .int _ n => if 0 ≤ n then match s.data.toList[n.toNat]? with
      | some b => Out.val (.int .u8 b.toNat)
      | none => none
      else none
    | _, _ => none
  | .sslice x lo hi => match x.ev g with
    | .str s => match slBounds (lo.map (·.ev g)) (hi.map (·.ev g)) s.size with
      | some (a, b) => Out.val (.str (s.extract a b))
      | none => none
    | _ => none
  | .slice sz x lo hi => match x.ev g with
    | .ref id => match h id with
      | some (.arr sz' xs) => if sz' = sz then match slBounds (lo.map (·.ev g)) (hi.map (·.ev g)) xs.length with
        | some (a, b) => Out.val (.view id a (b - a))
        | none => none
        else none
      | _ => none
    | .view id l n => match h id with
      | some (.arr sz' xs) => if l + n ≤ xs.length ∧ sz' = sz then match slBounds (lo.map (·.ev g)) (hi.map (·.ev g)) n with
        | some (a, b) => Out.val (.view id (l + a) (b - a))
        | none => none
        else none
      | _ => none
    | .sl .own sz' [] => if sz' = sz then match slBounds (lo.map (·.ev g)) (hi.map (·.ev g)) 0 with
      | some _ => Out.val (.sl .own sz' [])
      | none => none
      else none
    | .sl m sz' xs => if m.ok ep ∧ sz' = sz then match slBounds (lo.map (·.ev g)) (hi.map (·.ev g)) xs.length with
      | some (a, b) => Out.val (.sl m sz' ((xs.drop a).take (b - a)))
      | none => none
      else none
    | _ => none
  | .len true x => match x.ev g with
    | .str s => Out.val (.int .i64 s.size)
    | _ => none
  | .len false x => match content h ep (x.ev g) with
    | some (_, xs) => Out.val (.int .i64 xs.length)
    | none => none
  | .append sz bytes flat s x => match takeRows h ep flat (x.ev g) with
    | none => none
    | some (sz', ys, ws) => if sz' = sz ∨ ys = [] then match s.ev g with
      | .sl .own _ [] => if ys.length * bytes ≤ 140737488355328 ∧ ys.length ≤ 140737488355328 then some ⟨.ref key, (key, some (.arr sz ys)) :: ws, true⟩ else none
      | .ref id => match h id with
        | some (.arr sz2 xs) => if (xs.length + ys.length) * bytes ≤ 140737488355328 ∧ xs.length + ys.length ≤ 140737488355328 ∧ ws.all (fun w => w.1 != id) ∧ sz2 = sz then
            some ⟨.ref key, (key, some (.arr sz (xs ++ ys))) :: (id, none) :: ws, true⟩ else none
        | _ => none
      | _ => none
      else none
  | .ext x i => match x.ev g with
    | .tup vs => Out.opt vs[i]?
    | _ => none
  | .mx hi x y => match x.ev g, y.ev g with
    | .int k a, .int _ b => Out.val (.int k (if hi then (if b > a then b else a) else (if b < a then b else a)))
    | _, _ => none
  | .mkmap kb => some ⟨.mapr key, [(key, some (.map kb []))], false⟩
  | .lookup kb z m k => match m.ev g, keyOf kb (k.ev g) with
    | .mapr id, some s => match h id with
      | some (.map kb' kvs) => if kb' = kb then Out.val ((mapGet s kvs).getD z) else none
      | _ => none
    | _, _ => none
  | .mapset kb m k v => match m.ev g, keyOf kb (k.ev g) with
    | .mapr id, some s => match h id with
      | some (.map kb' kvs) => if kb' = kb ∧ (v.ev g).plain = true then some ⟨.any, [(id, some (.map kb (mapPut s (v.ev g) kvs)))], false⟩ else none
      | _ => none
    | _, _ => none
  | .call k modes args => semCall cl k modes (evL g args) key h ep
  | .callf f modes args => match f.ev g with
    | .fn k => semCall cl k modes (evL g args) key h ep
    | _ => none
  | .callin k x args => match x.ev g with
    | .inn e id i off => if e = ep ∧ (evL g args).all AV.plain then match h id with
      | some (.arr sz xs) => match xs[i]? with
        | none => none
        | some row => match row[off]? with
          | some (.sl .own sz2 zs) => match cl k (.ref 0 :: evL g args) [.arr sz2 zs] with
            | some (r, [some (.arr sz3 zs')]) => if r.plain ∧ sz3 = sz2 then some ⟨r, [(id, some (.arr sz (xs.set i (row.set off (.sl .own sz2 zs')))))], true⟩ else none
            | _ => none
          | _ => none
      | _ => none
      else none
    | _ => none

/-! ### Regions -/
def wsOn (h : Nat → Option AO) : List (Nat × Option AO) → Nat → Option AO
  | [] => h
  | (i, o) :: ws => wsOn (upd h i o) ws

def putTo (g : Nat → AV) (dst : Option Nat) (v : AV) : Nat → AV :=
  match dst with
  | some d => upd g d v
  | none => g

/-- Whether an operation comes up ('none': it can't be told). What did not come up left the empty tuple. -/
def guardA (g : Nat → AV) : Option (Nat × Bool) → Option Bool
  | none => some true
  | some (t, b) => match g t with
    | .bool c => some (c == b)
    | .tup [] => some false
    | _ => none

def keepSlots (g : Nat → AV) : List Nat → Nat → AV
  | [] => fun _ => .any
  | t :: ts => upd (keepSlots g ts) t (g t)

def St.forget (s : St) (keep : List Nat) (n : Nat) : St := ⟨keepSlots s.slots keep, s.heap, s.ep, n, s.base⟩

def Out.app (o : Out) (dst : Option Nat) (s : St) : St := ⟨putTo s.slots dst o.v, wsOn s.heap o.ws, if o.bump then s.ep + 1 else s.ep, s.next, s.base⟩

def stepIns (cl : Callee) (i : CIns) (key : Nat) (s : St) : Option St :=
  match guardA s.slots i.guard with
  | some true => match sem cl i.op key s.slots s.heap s.ep with
    | some o => some (o.app i.dst s)
    | none => none
  | some false => some ⟨putTo s.slots i.dst (.tup []), s.heap, s.ep, s.next, s.base⟩
  | none => none

def runIns (cl : Callee) : List CIns → Nat → St → Option St
  | [], _, s => some s
  | i :: is, key, s => match stepIns cl i key s with
    | some s' => runIns cl is (key + 64) s'
    | none => none

/-- The same where nothing may be written. -/
def stepQuiet (cl : Callee) (i : CIns) (key : Nat) (s : St) : Option St :=
  match guardA s.slots i.guard with
  | some true => match sem cl i.op key s.slots s.heap s.ep with
    | some ⟨v, [], false⟩ => some ⟨putTo s.slots i.dst v, s.heap, s.ep, s.next, s.base⟩
    | _ => none
  | some false => some ⟨putTo s.slots i.dst (.tup []), s.heap, s.ep, s.next, s.base⟩
  | none => none

def runQuiet (cl : Callee) : List CIns → Nat → St → Option St
  | [], _, s => some s
  | i :: is, key, s => match stepQuiet cl i key s with
    | some s' => runQuiet cl is (key + 64) s'
    | none => none

/-! ### What an operation looks at in memory -/
def inner (h : Nat → Option AO) : AV → List Nat
  | .ptr id _ _ => match h id with
    | some (.box cells) => cells.flatMap AV.id?
    | _ => []
  | _ => []

def COp.looks (o : COp) (g : Nat → AV) (h : Nat → Option AO) : List Nat :=
  match o with
  | .mov _ | .pick .. | .bin .. | .beq .. | .eqs .. | .un .. | .conv .. | .sconv _ | .alloc _ | .box _ | .build .. | .mksl .. | .sslice .. | .sidx .. | .ext .. | .mx .. | .mkmap _ => []
  | .toStr x | .len _ x | .nilck x | .faddr x _ => (x.ev g).id?
  | .load x _ _ _ => (x.ev g).id?
  | .store a x _ => (a.ev g).id? ++ (x.ev g).ids
  | .bslice _ _ _ parts => parts.flatMap fun p => (p.2.ev g).ids
  | .iaddr _ x _ | .slice _ x _ _ => (x.ev g).id?
  | .append _ _ _ s x => (s.ev g).id? ++ (x.ev g).id?
  | .lookup _ _ m _ | .mapset _ m _ _ => (m.ev g).id?
  | .call _ _ args => (evL g args).flatMap fun v => v.ids ++ inner h v
  | .callf _ _ args => (evL g args).flatMap fun v => v.ids ++ inner h v
  | .callin _ x _ => (x.ev g).id?

def COp.opds : COp → List Opd
  | .mov x | .nilck x | .un _ x | .conv _ x | .toStr x | .sconv x | .box x | .mksl _ _ _ x | .load x _ _ _ | .faddr x _ | .len _ x | .ext x _ => [x]
  | .pick c a b => [c, a, b]
  | .mx _ x y | .bin _ x y | .beq _ x y | .eqs _ _ x y | .store x y _ | .iaddr _ x y | .sidx x y | .append _ _ _ x y | .lookup _ _ x y => [x, y]
  | .mapset _ m k v => [m, k, v]
  | .alloc _ | .mkmap _ => []
  | .build _ ps => ps.map (·.2.2)
  | .bslice _ _ _ ps => ps.map (·.2)
  | .slice _ x lo hi | .sslice x lo hi => x :: (lo.toList ++ hi.toList)
  | .call _ _ args => args
  | .callf f _ args => f :: args
  | .callin _ x args => x :: args

structure Tr where
  rd : List Nat
  wr : List Nat
  ue : Bool
  we : Bool

def bsnap : AV → Bool
  | .bptr m _ _ => m.isSnap
  | v => v.snaps

def stepLoud (cl : Callee) (i : CIns) (key : Nat) (s : St) : Option (St × Tr) :=
  match guardA s.slots i.guard with
  | some true => match sem cl i.op key s.slots s.heap s.ep with
    | some o => some (o.app i.dst s, ⟨i.op.looks s.slots s.heap, o.ws.map (·.1), bsnap o.v || (evL s.slots i.op.opds).any bsnap, o.bump⟩)
    | none => none
  | some false => some (⟨putTo s.slots i.dst (.tup []), s.heap, s.ep, s.next, s.base⟩, ⟨[], [], false, false⟩)
  | none => none

def runLoud (cl : Callee) : List CIns → Nat → St → Option (St × List Tr)
  | [], _, s => some (s, [])
  | i :: is, key, s => match stepLoud cl i key s with
    | none => none
    | some (s', t) => match runLoud cl is (key + 64) s' with
      | none => none
      | some (s'', ts) => some (s'', t :: ts)

def meets (a b : List Nat) : Bool := a.any fun x => b.contains x

/-- May two operations not be told apart by their order? -/
def Tr.clash (a b : Tr) : Bool := meets a.wr b.rd || meets a.wr b.wr || meets a.rd b.wr || (a.we && (b.ue || b.we)) || (a.ue && b.we)

/-- Each later one is either bound to wait for 'a' (number i), or does not clash with it. -/
def clearOf (a : Tr) (i : Nat) : List Tr → List Nat → Bool
  | b :: bs, d :: ds => (d.testBit i || !a.clash b) && clearOf a i bs ds
  | [], [] => true
  | _, _ => false

def allClear (i : Nat) : List Tr → List Nat → Bool
  | a :: as, _ :: ds => clearOf a i as ds && allClear (i + 1) as ds
  | [], [] => true
  | _, _ => false

/-! ### Loops: names and arrays as at the head of every round -/
def rn1 (L : List Nat) : AV → AV
  | .ref id => if L.contains id then .ref (L.idxOf id) else .any
  | .view id lo len => if L.contains id then .view (L.idxOf id) lo len else .any
  | .ptr id i off => if L.contains id then .ptr (L.idxOf id) i off else .any
  | .mapr id => if L.contains id then .mapr (L.idxOf id) else .any
  | .sl (.snap _) _ _ => .any
  | .bptr (.snap _) _ _ => .any
  | .inn .. => .any
  | v => v

def rnV (L : List Nat) : AV → AV
  | .agg cs => .agg (cs.map (rn1 L))
  | .tup vs => if vs.isEmpty then .tup [] else .any
  | v => rn1 L v

def rnO (L : List Nat) : AO → AO
  | .box cells => .box (cells.map (rn1 L))
  | o => o

def addNew (L is : List Nat) : List Nat := is.foldl (fun L i => if L.contains i then L else L ++ [i]) L

def idsOfSlots (g : Nat → AV) : List Nat → List Nat → List Nat
  | [], L => L
  | t :: ts, L => idsOfSlots g ts (addNew L (g t).ids)

def idsOfBoxes (h : Nat → Option AO) : List Nat → List Nat → List Nat
  | [], L => L
  | i :: is, L => match h i with
    | some (.box cells) => idsOfBoxes h is (addNew L (cells.flatMap AV.id?))
    | _ => idsOfBoxes h is L

def rnHeap (h : Nat → Option AO) (L : List Nat) : List Nat → Nat → Nat → Option AO
  | [], _ => fun _ => none
  | i :: is, n => upd (rnHeap h L is (n + 1)) n ((h i).map (rnO L))

def rnSlots (g : Nat → AV) (L : List Nat) : List Nat → Nat → AV
  | [] => fun _ => .any
  | t :: ts => upd (rnSlots g L ts) t (rnV L (g t))

def St.norm (s : St) (keep : List Nat) : St :=
  let L1 := idsOfSlots s.slots keep (List.range s.base)
  let L := idsOfBoxes s.heap L1 L1
  ⟨rnSlots s.slots L keep, rnHeap s.heap L L 0, 0, L.length, s.base⟩

def rounds (f : St → Option (AExit × St)) (keep : List Nat) : Nat → St → Option (AExit × St)
  | 0, _ => none
  | n + 1, s => match f (s.norm keep) with
    | some (.normal, s') => rounds f keep n s'
    | r => r

def big : Nat := 1000000000000000

def runCode (cl : Callee) : CCode → St → Option (AExit × St)
  | .skip, s => some (.normal, s)
  | .region ops keep, s => match runIns cl ops s.next s with
    | some s' => some (.normal, s'.forget keep (s.next + 64 * ops.length))
    | none => none
  | .quiet ops keep, s => match runQuiet cl ops s.next s with
    | some s' => some (.normal, s'.forget keep (s.next + 64 * ops.length))
    | none => none
  | .loud ops deps keep, s => match runLoud cl ops s.next s with
    | some (s', ts) => if allClear 0 ts deps then some (.normal, s'.forget keep (s.next + 64 * ops.length)) else none
    | none => none
  | .seq a b, s => match runCode cl a s with
    | some (.normal, s') => runCode cl b s'
    | r => r
  | .cond c a b, s => match c.ev s.slots with
    | .bool true => runCode cl a s
    | .bool false => runCode cl b s
    | _ => none
  | .block id b, s => match runCode cl b s with
    | some (.exit i, s') => if i = id then some (.normal, s') else some (.exit i, s')
    | r => r
  | .loop keep b, s => rounds (runCode cl b) keep big s
  | .exit id, s => some (.exit id, s)
  | .ret, s => some (.ret, s)

/-! ### Functions -/
/-- A value leaves its call: the arrays of the call's own go with it. -/
def shut1 (h : Nat → Option AO) : AV → Option (AV × List Nat)
  | .ref id => match h id with
    | some (.arr sz xs) => some (.sl .own sz xs, [id])
    | _ => none
  | .bool b => some (.bool b, [])
  | .int k n => some (.int k n, [])
  | .str s => some (.str s, [])
  | .sl .own sz [] => some (.sl .own sz [], [])
  | .sl .imm sz xs => some (.sl .imm sz xs, [])
  | _ => none

def shutL (h : Nat → Option AO) : List AV → Option (List AV × List Nat)
  | [] => some ([], [])
  | c :: cs => match shut1 h c with
    | none => none
    | some (d, is) => match shutL h cs with
      | none => none
      | some (ds, js) => some (d :: ds, is ++ js)

def shutV (h : Nat → Option AO) : AV → Option (AV × List Nat)
  | .agg cs => match shutL h cs with
    | some (ds, is) => some (.agg ds, is)
    | none => none
  | .ptr id 0 0 => match h id with
    | some (.box cells) => match shutL h cells with
      | some (ds, is) => some (.cellp ds, id :: is)
      | none => none
    | _ => none
  | v => shut1 h v

def shutT (h : Nat → Option AO) : List AV → Option (List AV × List Nat)
  | [] => some ([], [])
  | c :: cs => match shutV h c with
    | none => none
    | some (d, is) => match shutT h cs with
      | none => none
      | some (ds, js) => some (d :: ds, is ++ js)

/-- The boxes that came in with the call, as they are behind it. -/
def shutBoxes (h : Nat → Option AO) : Nat → Nat → Option (List Nat)
  | _, 0 => some []
  | i, n + 1 => match h i with
    | some (.box cells) => match shutL h cells with
      | some (_, is) => match shutBoxes h (i + 1) n with
        | some js => some (is ++ js)
        | none => none
      | none => none
    | _ => shutBoxes h (i + 1) n

def outOf (h : Nat → Option AO) (gone : List Nat) (i : Nat) : Option AO :=
  match h i with
  | some (.box cells) => match shutL h cells with
    | some (ds, _) => some (.box ds)
    | none => none
  | some (.arr sz xs) => if gone.contains i then none else some (.arr sz xs)
  | _ => none

def outsOf (h : Nat → Option AO) (gone : List Nat) : Nat → Nat → List (Option AO)
  | _, 0 => []
  | i, n + 1 => outOf h gone i :: outsOf h gone (i + 1) n

def resVal (s : St) : CRes → Option AV
  | .tmp t => some (s.slots t)
  | .cell t sz agg => match s.slots t with
    | .ptr id 0 0 => match s.heap id with
      | some (.box cells) => if cells.length = sz then loadFrom cells 0 sz agg else none
      | _ => none
    | _ => none

def resVals (s : St) : List CRes → Option (List AV)
  | [] => some []
  | r :: rs => match resVal s r with
    | none => none
    | some v => match resVals s rs with
      | none => none
      | some vs => some (v :: vs)

def startSlots : List AV → Nat → Nat → AV
  | [], _ => fun _ => .any
  | v :: vs, t => upd (startSlots vs (t + 1)) t v

def startHeap : List AO → Nat → Nat → Option AO
  | [], _ => fun _ => none
  | o :: os, i => upd (startHeap os (i + 1)) i (some o)

def endFn (c : CFn) (n : Nat) (s : St) : Option (AV × List (Option AO)) :=
  match resVals s c.res with
  | none => none
  | some vs => match shutT s.heap vs with
    | none => none
    | some (ws, is) => match shutBoxes s.heap 0 n with
      | none => none
      | some js => if distinct (is ++ js) && (is ++ js).all (fun i => match s.heap i with | some (.box _) => decide (n ≤ i) | _ => true) then
          some (match ws with | [v] => v | ws => .tup ws, outsOf s.heap (is ++ js) 0 n)
        else none

def runFn (cl : Callee) (c : CFn) (args : List AV) (objs : List AO) : Option (AV × List (Option AO)) :=
  if args.length ≤ c.nt then
    match runCode cl c.body ⟨startSlots args 0, startHeap objs 0, 0, objs.length, objs.length⟩ with
    | some (.ret, s) => endFn c objs.length s
    | some (.normal, s) => endFn c objs.length s
    | _ => none
  else none

/-- A program: the functions' code, and what is known of those without. -/
structure CProg where
  fn : Nat → Option CFn
  prim : Callee

def CProg.call (p : CProg) : Nat → Callee
  | 0, _, _, _ => none
  | d + 1, k, args, objs => match p.fn k with
    | some c => runFn (p.call d) c args objs
    | none => p.prim k args objs
end Go.Proofs.Ytfebkfeobdffjaa
