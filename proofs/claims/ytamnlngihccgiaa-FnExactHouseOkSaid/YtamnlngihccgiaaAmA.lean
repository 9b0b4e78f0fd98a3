/- The abstract machine: values, heaps, operations and the weakest precondition of code over them. It speaks of no program. -/
import Derived.OrdersHeld
import Derived.Deep.LoopGhost
namespace Go.Proofs.Ytamnlngihccgiaa.AM
set_option linter.all false
open Go

/-- Values: 'p' a pointer to cell j of row i of block id; 'l' a slice of n rows from row i on of block id; 'q' a slice that is told by what lies in it (nobody writes there any more), 'pq' a pointer to cell j of such a row; 'u' a value of which nothing is known. -/
inductive AV where
  | b (x : Bool)
  | n (k : IntKind) (x : Int)
  | s (x : ByteArray)
  | pn
  | p (id i j : Nat)
  | l (id i n : Nat)
  | q (rows : List (List AV))
  | pq (r : List AV) (j : Nat)
  | a (cs : List AV)
  | t (cs : List AV)
  | f (g : FuncId) (cap : List AV)
  | en
  | e (ty : TypeId) (v : AV)
  | u
  deriving Inhabited

/-- A block: rows of k cells each. -/
structure Blk where
  k : Nat
  own : Bool
  rows : List (List AV)

structure AH where
  m : Nat → Option Blk
  nx : Nat
  ok : ∀ j, nx ≤ j → m j = none

namespace AH
theorem ext' {H H' : AH} (h1 : ∀ j, H.m j = H'.m j) (h2 : H.nx = H'.nx) : H = H' := by
  cases H; cases H'
  simp only [AH.mk.injEq]
  exact ⟨funext h1, h2⟩
def get (H : AH) (id : Nat) : Option Blk := H.m id
def push (H : AH) (B : Blk) : AH := ⟨fun id => if id = H.nx then some B else H.m id, H.nx + 1, fun j h => by
  rw [if_neg (by omega)]; exact H.ok j (by omega)⟩
def put (H : AH) (id : Nat) (B : Blk) : AH := ⟨fun j => if j = id ∧ id < H.nx then some B else H.m j, H.nx, fun j h => by
  rw [if_neg (by omega)]; exact H.ok j h⟩
def kill (H : AH) (id : Nat) : AH := ⟨fun j => if j = id ∧ id ≠ 0 then none else H.m j, H.nx, fun j h => by
  split
  · rfl
  · exact H.ok j h⟩
/-- For a callee: only the blocks in M may be written. -/
def lock (H : AH) (M : List Nat) : AH := ⟨fun j => if j = 0 ∨ j ∈ M then H.m j else (H.m j).map fun B => { B with own := false }, H.nx, fun j h => by
  rw [H.ok j h]; split <;> rfl⟩
/-- Behind a callee: what it could not write is as it was. -/
def back (H : AH) (M : List Nat) (H' : AH) : AH := ⟨fun j => if j < H.nx ∧ j ≠ 0 ∧ j ∉ M ∧ j < H'.nx then H.m j else H'.m j, H'.nx, fun j h => by
  rw [if_neg (by omega)]; exact H'.ok j h⟩
def row (H : AH) (id i : Nat) : Option (List AV) := (H.get id).bind fun B => B.rows[i]?
end AH

def Fr := Nat → AV
namespace Fr
def get (fr : Fr) (t : Nat) : AV := fr t
def set (fr : Fr) (d : Nat) (v : AV) : Fr := fun t => if t = d then v else fr t
def setO (fr : Fr) (d : Option Nat) (v : AV) : Fr := match d with | some d => fr.set d v | none => fr
def ofList (vs : List AV) : Fr := fun t => vs.getD t (.t [])
/-- The frame in which only these slots are known. -/
def only : List (Nat × AV) → Fr
  | [] => fun _ => .u
  | (d, v) :: r => (only r).set d v
end Fr

/-- Operands. -/
inductive Od where
  | t (k : Nat)
  | c (v : AV)
  deriving Inhabited

def Fr.ev (fr : Fr) : Od → AV
  | .t k => fr.get k
  | .c v => v

inductive AOp where
  | mov (x : Od)
  | pick (c x y : Od)
  | bin (op : BinOp) (x y : Od)
  | beq (neg : Bool) (x y : Od)
  | eqs (neg : Bool) (ty : TypeId) (x y : Od)
  | eqn (kd : Nat) (neg : Bool) (x : Od)
  | un (op : UnOp) (x : Od)
  | conv (k : IntKind) (x : Od)
  | bts (x : Od)
  | fld (off sz : Nat) (ag : Bool) (x : Od)
  | ext (ix : Nat) (x : Od)
  | nilc (x : Od)
  | fad (off : Nat) (x : Od)
  | iad (k : Nat) (x ix : Od)
  | idx (x ix : Od)
  | sls (k : Nat) (x : Od) (lo hi : Option Od)
  | sst (x : Od) (lo hi : Option Od)
  | load (sz : Nat) (ag : Bool) (x : Od)
  | stor (sz : Nat) (x v : Od)
  | box (v : Od)
  | aloc (zero : List AV)
  | bld (zero : List AV) (parts : List (Nat × Nat × Od))
  | bsl (k : Nat) (rows : List Od)
  | mks (by_ : Nat) (zero : List AV) (len : Od)
  | mkf (g : FuncId) (cap : List Od)
  | call (f : Od) (args : List Od)
  | callm (f : Od) (args : List Od)
  | app (by_ k : Nat) (x y : Od)
  | apps (x y : Od)
  | cpy (k : Nat) (x y : Od)
  | len (str : Bool) (x : Od)
  | mm (max : Bool) (xs : List Od)
  | mif (t : TypeId) (x : Od)
  | no

/-- An operation with its destination and its guard (a slot, and what it must hold). -/
structure AO where
  d : Option Nat
  g : Option (Nat × Bool)
  o : AOp

inductive Plan where
  | done
  | take (i : Nat) (p : Plan)
  | all (ps : List (Nat × Plan))

inductive ACode where
  | skip
  | reg (ops : List AO)
  | dreg (p : Plan) (ops : List AO)
  | seq (x y : ACode)
  | cond (c : Od) (x y : ACode)
  | block (id : Nat) (x : ACode)
  | loop (x : ACode)
  | fz (x : ACode)
  | exit (id : Nat)
  | ret
  | bad

inductive Ex where
  | normal
  | exit (id : Nat)
  | ret

/-! ### What operations do -/

def bitsv (op : BinOp) (k : IntKind) (x y : Int) : Int :=
  let a := BitVec.ofInt k.bits x
  let b := BitVec.ofInt k.bits y
  k.wrap (match op with
    | .and => (a &&& b).toNat
    | .or => (a ||| b).toNat
    | .xor => (a ^^^ b).toNat
    | _ => (a &&& ~~~b).toNat)

def abin (op : BinOp) (x y : AV) (K : AV → Prop) : Prop :=
  match x, y with
  | .n k a, .n k' b =>
    match op with
    | .shl => 0 ≤ b ∧ K (.n k (k.wrap (a * 2 ^ (min b.toNat k.bits))))
    | .shr => 0 ≤ b ∧ K (.n k (a.fdiv (2 ^ (min b.toNat k.bits))))
    | .add => k = k' ∧ K (.n k (k.wrap (a + b)))
    | .sub => k = k' ∧ K (.n k (k.wrap (a - b)))
    | .mul => k = k' ∧ K (.n k (k.wrap (a * b)))
    | .quo => k = k' ∧ b ≠ 0 ∧ K (.n k (k.wrap (a.tdiv b)))
    | .rem => k = k' ∧ b ≠ 0 ∧ K (.n k (a.tmod b))
    | .and => k = k' ∧ K (.n k (bitsv .and k a b))
    | .or => k = k' ∧ K (.n k (bitsv .or k a b))
    | .xor => k = k' ∧ K (.n k (bitsv .xor k a b))
    | .andNot => k = k' ∧ K (.n k (bitsv .andNot k a b))
    | .eql => k = k' ∧ K (.b (decide (a = b)))
    | .neq => k = k' ∧ K (.b (decide (a ≠ b)))
    | .lss => k = k' ∧ K (.b (decide (a < b)))
    | .leq => k = k' ∧ K (.b (decide (a ≤ b)))
    | .gtr => k = k' ∧ K (.b (decide (b < a)))
    | .geq => k = k' ∧ K (.b (decide (b ≤ a)))
  | .s a, .s b =>
    match op with
    | .add => a.size + b.size ≤ 9223372036854775807 ∧ K (.s (a ++ b))
    | .eql => K (.b (decide (a = b)))
    | .neq => K (.b (decide (a ≠ b)))
    | .lss => K (.b (Op.bytesLess a.toList b.toList))
    | .leq => K (.b (Op.bytesLess a.toList b.toList || decide (a = b)))
    | .gtr => K (.b (!(Op.bytesLess a.toList b.toList || decide (a = b))))
    | .geq => K (.b (!Op.bytesLess a.toList b.toList))
    | _ => False
  | _, _ => False

/-- '==' of two cells that are numbers, bools or strings. -/
def sceq : AV → AV → Option Bool
  | .b x, .b y => some (x == y)
  | .n k x, .n k' y => if k = k' then some (decide (x = y)) else none
  | .s x, .s y => some (decide (x = y))
  | _, _ => none
def sceqs : List AV → List AV → Option Bool
  | [], [] => some true
  | x :: xs, y :: ys => (sceq x y).bind fun r => if r then sceqs xs ys else some false
  | _, _ => none

/-- Is a value nil, where that can be told? -/
def isNil (kd : Nat) (v : AV) : Option Bool :=
  match kd with
  | 0 => match v with
    | .pn => some true
    | .p .. => some false
    | _ => none
  | 1 => match v with
    | .en => some true
    | .e .. => some false
    | _ => none
  | _ => match v with
    | .l id _ n => if id = 0 then some true else if n = 0 then none else some false
    | .q rows => if rows = [] then none else some false
    | _ => none
def AV.isSl : AV → Bool
  | .l .. | .q _ => true
  | _ => false

def aun (op : UnOp) (x : AV) (K : AV → Prop) : Prop :=
  match op, x with
  | .neg, .n k a => K (.n k (k.wrap (0 - a)))
  | .xor, .n k a => K (.n k (bitsv .xor k (if k.signed then -1 else k.max) a))
  | .not, .b a => K (.b !a)
  | _, _ => False

/-- A part of an aggregate's cells. -/
def partv (ag : Bool) (sz off : Nat) (cs : List AV) : Option AV :=
  if off + sz ≤ cs.length then (if ag then some (.a ((cs.drop off).take sz)) else cs[off]?) else none

/-- May a value lie in one cell? -/
def AV.leaf : AV → Bool
  | .a _ | .t _ | .u => false
  | _ => true

def cellsOf : AV → List AV
  | .a cs => cs
  | v => [v]

/-- Cells of a list replaced from a place on. -/
def putAt (l : List AV) (off : Nat) (vs : List AV) : List AV := l.take off ++ vs ++ l.drop (off + vs.length)

def fillv (fr : Fr) : List AV → List (Nat × Nat × Od) → List AV
  | z, [] => z
  | z, (off, _, x) :: r => fillv fr (putAt z off (cellsOf (fr.ev x))) r

def partsOk (fr : Fr) (len : Nat) : List (Nat × Nat × Od) → Prop
  | [] => True
  | (off, sz, x) :: r => (cellsOf (fr.ev x)).length = sz ∧ (cellsOf (fr.ev x)).all AV.leaf = true ∧ off + sz ≤ len ∧ partsOk fr len r

/-- A bound of a slicing: a number from 0 on. -/
def bnd (fr : Fr) (o : Option Od) (dflt : Nat) : Option Int :=
  match o with
  | none => some dflt
  | some x => match fr.ev x with
    | .n _ v => some v
    | _ => none

def mmv2 (max : Bool) (k : IntKind) : Int → List AV → Option AV
  | x, [] => some (.n k x)
  | x, .n k' y :: r => if k = k' then mmv2 max k (if max then (if y > x then y else x) else (if y < x then y else x)) r else none
  | _, _ => none
def mmv (max : Bool) : List AV → Option AV
  | .n k x :: r => mmv2 max k x r
  | _ => none

/-- The bytes of rows of one byte each. -/
def bytesOfRows : List (List AV) → Option (List UInt8)
  | [] => some []
  | [.n .u8 v] :: r => (bytesOfRows r).map (UInt8.ofNat v.toNat :: ·)
  | _ => none

/-- A callee's contract; given from outside. -/
abbrev CtT := FuncId → List AV → AH → (AV → AH → Prop) → Prop
/-- What is known of the program: its functions' contracts; of which types '==' is the cells' own (their kinds). -/
structure Env where
  ct : CtT
  eq : TypeId → List Nat → Prop
def IntKind.nr : IntKind → Nat
  | .i8 => 2 | .i16 => 3 | .i32 => 4 | .i64 => 5 | .u8 => 6 | .u16 => 7 | .u32 => 8 | .u64 => 9
def AV.kd : AV → Nat
  | .b _ => 0
  | .s _ => 1
  | .n k _ => IntKind.nr k
  | _ => 99

section
variable (E : Env)
/-- What an operation asks of what follows: K gets its value and the heap. 'pw': which blocks may be written; 'rd': which may be read. -/
def aop (pw rd : Nat → Prop) (o : AOp) (fr : Fr) (H : AH) (K : AV → AH → Prop) : Prop :=
  match o with
  | .mov x => K (fr.ev x) H
  | .pick c x y => match fr.ev c with
    | .b true => K (fr.ev x) H
    | .b false => K (fr.ev y) H
    | _ => False
  | .bin op x y => abin op (fr.ev x) (fr.ev y) fun v => K v H
  | .beq neg x y => match fr.ev x, fr.ev y with
    | .b p, .b q => K (.b (if neg then !(p == q) else p == q)) H
    | _, _ => False
  | .eqs neg ty x y => match fr.ev x, fr.ev y with
    | .a xs, .a ys => E.eq ty (xs.map AV.kd) ∧ ys.map AV.kd = xs.map AV.kd ∧ match sceqs xs ys with
      | some r => K (.b (if neg then !r else r)) H
      | none => False
    | _, _ => False
  | .eqn kd neg x => match isNil kd (fr.ev x) with
    | some r => K (.b (if neg then !r else r)) H
    | none => (fr.ev x).isSl = true ∧ 2 ≤ kd ∧ ∀ r, K (.b r) H
  | .un op x => aun op (fr.ev x) fun v => K v H
  | .conv k x => match fr.ev x with
    | .n _ v => K (.n k (k.wrap v)) H
    | _ => False
  | .bts x => match fr.ev x with
    | .l id i n => match H.get id with
      | some B => i + n ≤ B.rows.length ∧ match bytesOfRows ((B.rows.drop i).take n) with
        | some bs => rd id ∧ K (.s ⟨bs.toArray⟩) H
        | none => False
      | none => False
    | .q rows => match bytesOfRows rows with
      | some bs => rd 0 ∧ K (.s ⟨bs.toArray⟩) H
      | none => False
    | _ => False
  | .fld off sz ag x => match fr.ev x with
    | .a cs => match partv ag sz off cs with
      | some v => K v H
      | none => False
    | _ => False
  | .ext ix x => match fr.ev x with
    | .t cs => match cs[ix]? with
      | some v => K v H
      | none => False
    | _ => False
  | .nilc x => match fr.ev x with
    | .p id i j => K (.p id i j) H
    | .pq r j => K (.pq r j) H
    | _ => False
  | .fad off x => match fr.ev x with
    | .p id i j => K (.p id i (j + off)) H
    | .pq r j => K (.pq r (j + off)) H
    | _ => False
  | .iad k x ix => match fr.ev x, fr.ev ix with
    | .l id i n, .n _ v => (H.get id).map Blk.k = some k ∧ 0 ≤ v ∧ v < n ∧ K (.p id (i + v.toNat) 0) H
    | .q rows, .n _ v => 0 ≤ v ∧ match rows[v.toNat]? with
      | some r => r.length = k ∧ K (.pq r 0) H
      | none => False
    | _, _ => False
  | .idx x ix => match fr.ev x, fr.ev ix with
    | .s x, .n _ v => 0 ≤ v ∧ v < x.size ∧ K (.n .u8 (x[v.toNat]!).toNat) H
    | _, _ => False
  | .sls k x lo hi => match fr.ev x with
    | .l id i n => match bnd fr lo 0, bnd fr hi n with
      | some lo, some hi => 0 ≤ lo ∧ lo ≤ hi ∧ hi ≤ n ∧ (lo = 0 ∨ (H.get id).map Blk.k = some k) ∧ K (.l id (i + lo.toNat) (hi.toNat - lo.toNat)) H
      | _, _ => False
    | .q rows => match bnd fr lo 0, bnd fr hi rows.length with
      | some lo, some hi => 0 ≤ lo ∧ lo ≤ hi ∧ hi ≤ rows.length ∧ (lo = 0 ∨ ∀ r ∈ rows, r.length = k) ∧ K (.q ((rows.drop lo.toNat).take (hi.toNat - lo.toNat))) H
      | _, _ => False
    | _ => False
  | .sst x lo hi => match fr.ev x with
    | .s x => match bnd fr lo 0, bnd fr hi x.size with
      | some lo, some hi => 0 ≤ lo ∧ lo ≤ hi ∧ hi ≤ x.size ∧ K (.s (x.extract lo.toNat hi.toNat)) H
      | _, _ => False
    | _ => False
  | .load sz ag x => match fr.ev x with
    | .p id i j => rd id ∧ match (H.row id i).bind (partv ag sz j) with
      | some v => K v H
      | none => False
    | .pq r j => rd 0 ∧ match partv ag sz j r with
      | some v => K v H
      | none => False
    | _ => False
  | .stor sz x v => match fr.ev x with
    | .p id i j => pw id ∧ match H.get id with
      | some B => B.own = true ∧ match B.rows[i]? with
        | some r => (cellsOf (fr.ev v)).length = sz ∧ j + sz ≤ r.length ∧ (cellsOf (fr.ev v)).all AV.leaf = true ∧ K (.t []) (H.put id { B with rows := B.rows.set i (putAt r j (cellsOf (fr.ev v))) })
        | none => False
      | none => False
    | _ => False
  | .box v => (cellsOf (fr.ev v)).all AV.leaf = true ∧ K (.p H.nx 0 0) (H.push ⟨(cellsOf (fr.ev v)).length, true, [cellsOf (fr.ev v)]⟩)
  | .aloc zero => zero.all AV.leaf = true ∧ K (.p H.nx 0 0) (H.push ⟨zero.length, true, [zero]⟩)
  | .bld zero parts => partsOk fr zero.length parts ∧ K (.a (fillv fr zero parts)) H
  | .bsl k rows => (∀ x ∈ rows, (cellsOf (fr.ev x)).length = k ∧ (cellsOf (fr.ev x)).all AV.leaf = true) ∧
      K (.l H.nx 0 rows.length) (H.push ⟨k, true, rows.map fun x => cellsOf (fr.ev x)⟩)
  | .mks by_ zero len => match fr.ev len with
    | .n _ v => 0 ≤ v ∧ v < 9223372036854775808 ∧ by_ * v ≤ 281474976710656 ∧ zero.all AV.leaf = true ∧ K (.l H.nx 0 v.toNat) (H.push ⟨zero.length, true, List.replicate v.toNat zero⟩)
    | _ => False
  | .mkf g cap => K (.f g (cap.map fr.ev)) H
  | .call f args => match fr.ev f with
    | .f g cap => E.ct g (args.map fr.ev ++ cap) (H.lock []) fun r H' => K r (H.back [] H')
    | _ => False
  | .callm f args => match fr.ev f with
    | .f g cap => ∃ M : List Nat, (∀ id ∈ M, pw id) ∧ E.ct g (args.map fr.ev ++ cap) (H.lock M) fun r H' => K r (H.back M H')
    | _ => False
  | .app by_ k x y => match fr.ev x, fr.ev y with
    | .l id i n, .l id' i' n' => match H.get id, H.get id' with
      | some B, some B' =>
        (n' = 0 ∨ B'.k = k) ∧ (id = 0 ∨ B.k = k) ∧ i + n ≤ B.rows.length ∧ i' + n' ≤ B'.rows.length ∧
        (n + n') * by_ ≤ 70368744177664 ∧ B.own = true ∧ (id = 0 ∨ pw id) ∧
          K (.l H.nx 0 (n + n')) ((H.kill id).push ⟨k, true, (B.rows.drop i).take n ++ (B'.rows.drop i').take n'⟩)
      | _, _ => False
    | .l id i n, .q rows => match H.get id with
      | some B =>
        (∀ r ∈ rows, r.length = k ∧ r.all AV.leaf = true) ∧ (id = 0 ∨ B.k = k) ∧ i + n ≤ B.rows.length ∧
        (n + rows.length) * by_ ≤ 70368744177664 ∧ B.own = true ∧ (id = 0 ∨ pw id) ∧
          K (.l H.nx 0 (n + rows.length)) ((H.kill id).push ⟨k, true, (B.rows.drop i).take n ++ rows⟩)
      | none => False
    | _, _ => False
  | .apps _ _ => False
  | .cpy k x y => match fr.ev x, fr.ev y with
    | .l id i n, .l id' i' n' => match H.get id, H.get id' with
      | some B, some B' =>
        pw id ∧ B.own = true ∧ B.k = k ∧ B'.k = k ∧ i + n ≤ B.rows.length ∧ i' + n' ≤ B'.rows.length ∧
          K (.n .i64 (min n' n : Nat)) (H.put id { B with rows := B.rows.take i ++ (B'.rows.drop i').take (min n' n) ++ B.rows.drop (i + min n' n) })
      | _, _ => False
    | .l id i n, .q rows => match H.get id with
      | some B =>
        pw id ∧ B.own = true ∧ B.k = k ∧ (∀ r ∈ rows, r.length = k ∧ r.all AV.leaf = true) ∧ i + n ≤ B.rows.length ∧
          K (.n .i64 (min rows.length n : Nat)) (H.put id { B with rows := B.rows.take i ++ rows.take (min rows.length n) ++ B.rows.drop (i + min rows.length n) })
      | none => False
    | _, _ => False
  | .len str x => match fr.ev x with
    | .l _ _ n => str = false ∧ K (.n .i64 n) H
    | .q rows => str = false ∧ K (.n .i64 rows.length) H
    | .s x => str = true ∧ K (.n .i64 x.size) H
    | _ => False
  | .mm max xs => match mmv max (xs.map fr.ev) with
    | some v => K v H
    | none => False
  | .mif t x => K (.e t (fr.ev x)) H
  | .no => False

/-- An operation behind its guard. -/
def ago (pw rd : Nat → Prop) (o : AO) (fr : Fr) (H : AH) (K : Fr → AH → Prop) : Prop :=
  match o.g with
  | none => aop E pw rd o.o fr H fun v H' => K (fr.setO o.d v) H'
  | some (t, want) => match fr.get t with
    | .b c => if c = want then aop E pw rd o.o fr H fun v H' => K (fr.setO o.d v) H' else K (fr.setO o.d (.t [])) H
    | .t [] => K (fr.setO o.d (.t [])) H
    | _ => False

def aops : List AO → Fr → AH → (Fr → AH → Prop) → Prop
  | [], fr, H, K => K fr H
  | o :: r, fr, H, K => ago E (fun _ => True) (fun _ => True) o fr H fun fr' H' => aops r fr' H' K

/-- Operations that leave the heap alone. -/
def AOp.quiet : AOp → Bool
  | .stor .. | .box _ | .aloc _ | .bsl .. | .mks .. | .call .. | .callm .. | .app .. | .apps .. | .cpy .. | .no => false
  | _ => true

/-- What may be read ahead, of what was there when the region began ('rdp'); and at any time ('rdq'). -/
def rdp (Wd : List Nat) (Hs : AH) : Nat → Prop := fun id => id = 0 ∨ id ∉ Wd ∧ (Hs.get id).isSome = true
def rdq (Wd : List Nat) (Hs : AH) : Nat → Prop := fun id => id ≠ 0 ∧ id ∉ Wd ∧ (Hs.get id).isSome = true
/-- A quiet operation behind its guard, reckoned out of what was there when the region began. -/
def agg (rd : Nat → Prop) (o : AO) (gd : Fr) (Hs : AH) (fr : Fr) (K : AV → Prop) : Prop :=
  match o.g with
  | none => aop E (fun _ => False) rd o.o gd Hs fun v _ => K v
  | some (t, want) => match fr.get t with
    | .b c => if c = want then aop E (fun _ => False) rd o.o gd Hs fun v _ => K v else K (.t [])
    | .t [] => K (.t [])
    | _ => False

-- A region that draws its order, by a plan. 'Wd': the old blocks that are written in it; 'Hs': the heap when it began; 'gd': the slots whose values hold since then.
mutual
def aplan (Wd : List Nat) (Hs : AH) (ops : List AO) : Plan → Fr → Fr → AH → (Fr → AH → Prop) → Prop
  | .done, _, fr, H, K => K fr H
  | .take i p, gd, fr, H, K => match ops[i]? with
    | some o => agg E (rdp Wd Hs) o gd Hs fr (fun v => aplan Wd Hs ops p (gd.setO o.d v) (fr.setO o.d v) H K) ∨
        ago E (fun _ => False) (rdq Wd Hs) o fr H fun fr' H' => aplan Wd Hs ops p (gd.setO o.d .u) fr' H' K
    | none => False
  | .all ps, gd, fr, H, K => aplans Wd Hs ops ps gd fr H K
def aplans (Wd : List Nat) (Hs : AH) (ops : List AO) : List (Nat × Plan) → Fr → Fr → AH → (Fr → AH → Prop) → Prop
  | [], _, _, _, _ => True
  | (i, p) :: r, gd, fr, H, K => (match ops[i]? with
    | some o => ago E (fun id => id ∈ Wd ∨ Hs.get id = none) (fun _ => True) o fr H fun fr' H' => aplan Wd Hs ops p (gd.setO o.d .u) fr' H' K
    | none => False) ∧ aplans Wd Hs ops r gd fr H K
end

-- Another view of a value: slices and pointers into the blocks S told by what lies there. 'd' is the view, 'v' the value.
mutual
def PV (H : AH) (S : Nat → Prop) : AV → AV → Prop
  | .q rows, v => (∃ rows', v = .q rows' ∧ PVss H S rows rows') ∨
      ∃ id i n B, v = .l id i n ∧ (id = 0 ∨ S id) ∧ H.m id = some B ∧ i + n ≤ B.rows.length ∧ PVss H S rows ((B.rows.drop i).take n)
  | .pq r j, v => (∃ r', v = .pq r' j ∧ PVs H S r r') ∨ ∃ id i B r', v = .p id i j ∧ S id ∧ H.m id = some B ∧ B.rows[i]? = some r' ∧ PVs H S r r'
  | .a cs, v => ∃ cs', v = .a cs' ∧ PVs H S cs cs'
  | .t cs, v => ∃ cs', v = .t cs' ∧ PVs H S cs cs'
  | .f g cap, v => ∃ cap', v = .f g cap' ∧ PVs H S cap cap'
  | .e ty x, v => ∃ x', v = .e ty x' ∧ PV H S x x'
  | .b x, v => v = .b x
  | .n k x, v => v = .n k x
  | .s x, v => v = .s x
  | .pn, v => v = .pn
  | .p id i j, v => v = .p id i j
  | .l id i n, v => v = .l id i n
  | .en, v => v = .en
  | .u, _ => True
def PVs (H : AH) (S : Nat → Prop) : List AV → List AV → Prop
  | [], vs => vs = []
  | d :: ds, vs => ∃ v r, vs = v :: r ∧ PV H S d v ∧ PVs H S ds r
def PVss (H : AH) (S : Nat → Prop) : List (List AV) → List (List AV) → Prop
  | [], vs => vs = []
  | d :: ds, vs => ∃ v r, vs = v :: r ∧ PVs H S d v ∧ PVss H S ds r
end

/-- The blocks S are given up: nobody writes there any more; who told of them by number may tell of them by what lies there. -/
structure Fz (S : List Nat) (fr : Fr) (H : AH) (fr' : Fr) (H' : AH) : Prop where
  own : ∀ id ∈ S, id ≠ 0 ∧ ∃ B, H.m id = some B ∧ B.own = true
  fr : ∀ t, PV H (· ∈ S) (fr' t) (fr t)
  nx : H'.nx = H.nx
  nil : H'.m 0 = H.m 0
  blk : ∀ j B', H'.m j = some B' → j ∉ S ∧ ∃ B, H.m j = some B ∧ B'.k = B.k ∧ B'.own = B.own ∧ PVss H (· ∈ S) B'.rows B.rows ∧ (∀ r ∈ B'.rows, r.all AV.leaf = true) ∧ (B.own = false → B' = B)

def exThen (next : Fr → AH → Prop) (Q : Ex → Fr → AH → Prop) : Ex → Fr → AH → Prop
  | .normal, fr, H => next fr H
  | e, fr, H => Q e fr H
def exBlock (id : Nat) (Q : Ex → Fr → AH → Prop) : Ex → Fr → AH → Prop
  | .exit id', fr, H => if id' = id then Q .normal fr H else Q (.exit id') fr H
  | e, fr, H => Q e fr H

def awp : ACode → Fr → AH → (Ex → Fr → AH → Prop) → Prop
  | .skip, fr, H, Q => Q .normal fr H
  | .reg ops, fr, H, Q => aops E ops fr H (Q .normal)
  | .dreg p ops, fr, H, Q => ∃ Wd : List Nat, aplan E Wd H ops p fr fr H (Q .normal)
  | .seq x y, fr, H, Q => awp x fr H (exThen (fun fr' H' => awp y fr' H' Q) Q)
  | .cond c x y, fr, H, Q => match fr.ev c with
    | .b c => (c = true → awp x fr H Q) ∧ (c = false → awp y fr H Q)
    | _ => False
  | .block id x, fr, H, Q => awp x fr H (exBlock id Q)
  | .loop x, fr, H, Q => ∃ (I : Nat → Fr → AH → Prop) (n : Nat), I n fr H ∧
      ∀ n fr H, I n fr H → awp x fr H (exThen (fun fr' H' => ∃ n', n' < n ∧ I n' fr' H') Q)
  | .fz x, fr, H, Q => ∃ S fr' H', Fz S fr H fr' H' ∧ awp x fr' H' Q
  | .exit id, fr, H, Q => Q (.exit id) fr H
  | .ret, fr, H, Q => Q .ret fr H
  | .bad, _, _, _ => False
end

/-- How a result is told. -/
inductive ARes where
  | t (k : Nat)
  | cell (k : Nat) (sz : Nat) (ag : Bool)

def aress (fr : Fr) (H : AH) : List ARes → Option (List AV)
  | [] => some []
  | .t k :: r => (aress fr H r).map (fr.get k :: ·)
  | .cell k sz ag :: r => match fr.get k with
    | .p id i j => ((H.row id i).bind (partv ag sz j)).bind fun v => (aress fr H r).map (v :: ·)
    | _ => none

def ares (fr : Fr) (H : AH) (rs : List ARes) : Option AV :=
  (aress fr H rs).map fun vs => match vs with
    | [v] => v
    | vs => .t vs

structure AFn where
  nt : Nat
  np : Nat
  res : List ARes
  body : ACode

/-- What a function asks of what follows. -/
def afn (E : Env) (A : AFn) (args : List AV) (H : AH) (R : AV → AH → Prop) : Prop :=
  args.length = A.np ∧ awp E A.body (Fr.ofList args) H fun e fr' H' =>
    match e with
    | .exit _ => False
    | _ => ∃ r, ares fr' H' A.res = some r ∧ R r H'
end Go.Proofs.Ytamnlngihccgiaa.AM
