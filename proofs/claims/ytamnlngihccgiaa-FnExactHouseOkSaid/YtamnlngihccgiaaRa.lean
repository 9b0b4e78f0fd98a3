/- Typed data, and a machine that runs abstract texts over typed data. It speaks of no program. -/
import Derived.Test.YtamnlngihccgiaaAmW
namespace Go.Proofs.Ytamnlngihccgiaa.AM
set_option linter.all false
open Go

/-- Trees of sums: nil or a node. -/
inductive PS where
  | nil
  | mk (op : Int) (left right : PS) (pk pn : Int) (pname : ByteArray) (fin kind depth : Int)
  deriving Inhabited
/-- Statements. -/
inductive DD where
  | mk (word name : ByteArray) (sum : PS) (first second : List DD)
instance : Inhabited DD := ⟨.mk ⟨#[]⟩ ⟨#[]⟩ .nil [] []⟩
namespace PS
def isNil : PS → Bool | .nil => true | _ => false
def op : PS → Int | .nil => 0 | .mk o _ _ _ _ _ _ _ _ => o
def left : PS → PS | .nil => .nil | .mk _ l _ _ _ _ _ _ _ => l
def right : PS → PS | .nil => .nil | .mk _ _ r _ _ _ _ _ _ => r
def pk : PS → Int | .nil => 0 | .mk _ _ _ k _ _ _ _ _ => k
def pn : PS → Int | .nil => 0 | .mk _ _ _ _ n _ _ _ _ => n
def pname : PS → ByteArray | .nil => ⟨#[]⟩ | .mk _ _ _ _ _ s _ _ _ => s
def fin : PS → Int | .nil => 0 | .mk _ _ _ _ _ _ f _ _ => f
def kind : PS → Int | .nil => 0 | .mk _ _ _ _ _ _ _ k _ => k
def depth : PS → Int | .nil => 0 | .mk _ _ _ _ _ _ _ _ d => d
end PS
namespace DD
def word : DD → ByteArray | .mk w _ _ _ _ => w
def name : DD → ByteArray | .mk _ n _ _ _ => n
def sum : DD → PS | .mk _ _ s _ _ => s
def first : DD → List DD | .mk _ _ _ f _ => f
def second : DD → List DD | .mk _ _ _ _ g => g
end DD

/-- Types of data. -/
inductive GT where
  | b
  | i (k : IntKind)
  | s
  | st (fs : List GT)
  | sl (t : GT)
  | ps
  | dd
  | fn (g : FuncId) (cap : List GT)
  | pt (t : GT)
  deriving Inhabited

mutual
def GT.beq : GT → GT → Bool
  | .b, .b => true
  | .i k, .i k' => decide (k = k')
  | .s, .s => true
  | .st fs, .st gs => GT.beqs fs gs
  | .sl t, .sl u => GT.beq t u
  | .ps, .ps => true
  | .dd, .dd => true
  | .fn g c, .fn h d => Nat.beq g h && GT.beqs c d
  | .pt t, .pt u => GT.beq t u
  | _, _ => false
def GT.beqs : List GT → List GT → Bool
  | [], [] => true
  | t :: r, u :: q => GT.beq t u && GT.beqs r q
  | _, _ => false
end
mutual
theorem GT.eq_of_beq : ∀ (t u : GT), GT.beq t u = true → t = u
  | .b, u, h => by cases u <;> simp_all [GT.beq]
  | .i k, u, h => by cases u <;> simp_all [GT.beq]
  | .s, u, h => by cases u <;> simp_all [GT.beq]
  | .st fs, u, h => by
    cases u <;> simp only [GT.beq, Bool.false_eq_true] at h
    rw [GT.eqs_of_beqs _ _ h]
  | .sl t, u, h => by
    cases u <;> simp only [GT.beq, Bool.false_eq_true] at h
    rw [GT.eq_of_beq _ _ h]
  | .ps, u, h => by cases u <;> simp_all [GT.beq]
  | .dd, u, h => by cases u <;> simp_all [GT.beq]
  | .fn g c, u, h => by
    cases u <;> simp only [GT.beq, Bool.false_eq_true, Bool.and_eq_true] at h
    rw [GT.eqs_of_beqs _ _ h.2, Nat.eq_of_beq_eq_true h.1]
  | .pt t, u, h => by
    cases u <;> simp only [GT.beq, Bool.false_eq_true] at h
    rw [GT.eq_of_beq _ _ h]
theorem GT.eqs_of_beqs : ∀ (t u : List GT), GT.beqs t u = true → t = u
  | [], u, h => by cases u <;> simp_all [GT.beqs]
  | t :: r, u, h => by
    cases u <;> simp only [GT.beqs, Bool.false_eq_true, Bool.and_eq_true] at h
    rw [GT.eq_of_beq _ _ h.1, GT.eqs_of_beqs _ _ h.2]
end

/-- A product, of which the last has no unit behind it. -/
def densC (A B : Type) : List GT → Type
  | [] => A
  | _ :: _ => A × B
mutual
def GT.den : GT → Type
  | .b => Bool
  | .i _ => Int
  | .s => ByteArray
  | .st fs => GT.dens fs
  | .sl t => List (GT.den t)
  | .ps => PS
  | .dd => DD
  | .fn _ c => GT.dens c
  | .pt t => GT.den t
def GT.dens : List GT → Type
  | [] => Unit
  | t :: r => densC (GT.den t) (GT.dens r) r
end
def densMk {t : GT} : {r : List GT} → t.den → GT.dens r → GT.dens (t :: r)
  | [], x, _ => x
  | _ :: _, x, y => (x, y)
def densHd {t : GT} : {r : List GT} → GT.dens (t :: r) → t.den
  | [], x => x
  | _ :: _, x => x.1
def densTl {t : GT} : {r : List GT} → GT.dens (t :: r) → GT.dens r
  | [], _ => ()
  | _ :: _, x => x.2
mutual
def GT.dflt : (t : GT) → t.den
  | .b => false
  | .i _ => (0 : Int)
  | .s => (⟨#[]⟩ : ByteArray)
  | .st fs => GT.dflts fs
  | .sl _ => []
  | .ps => PS.nil
  | .dd => DD.mk ⟨#[]⟩ ⟨#[]⟩ .nil [] []
  | .fn _ c => GT.dflts c
  | .pt t => GT.dflt t
def GT.dflts : (fs : List GT) → GT.dens fs
  | [] => ()
  | t :: r => densMk (GT.dflt t) (GT.dflts r)
end
mutual
def GT.size : GT → Nat
  | .st fs => GT.sizes fs
  | .dd => 5
  | _ => 1
def GT.sizes : List GT → Nat
  | [] => 0
  | t :: r => GT.size t + GT.sizes r
end

/-- Values. 'l', 'w' slices of blocks of the memory (a part; the whole); 'q' a slice that is told by what lies in it; 'pq' a pointer to cell j of such a row; 'er' an error, nil or not; 'u' nothing is known. -/
inductive V where
  | b (x : Bool)
  | n (k : IntKind) (x : Int)
  | s (x : ByteArray)
  | pn
  | p (id i j : Nat)
  | l (id lo n : Nat)
  | w (id : Nat)
  | q (T : GT) (xs : List T.den)
  | pq (T : GT) (x : T.den) (j : Nat)
  | a (cs : List V)
  | t (cs : List V)
  | f (g : FuncId) (cap : List V)
  | en
  | e (ty : TypeId) (v : V)
  | ps (x : PS)
  | pps (x : PS) (j : Nat)
  | u

def V.isAgg : V → Bool | .a _ => true | _ => false
def GT.isAgg : GT → Bool | .st _ => true | .dd => true | _ => false
/-- The cells of a value. -/
def V.cellsOf : V → List V
  | .a cs => cs
  | v => [v]
def mkVal : Bool → List V → V
  | true, cs => .a cs
  | false, v :: _ => v
  | false, [] => .u
mutual
/-- The cells of typed data. -/
def cells : (T : GT) → T.den → List V
  | .b, x => [.b x]
  | .i k, x => [.n k x]
  | .s, x => [.s x]
  | .st fs, x => cellss fs x
  | .sl t, x => [.q t x]
  | .ps, x => [.ps x]
  | .dd, x => [.s (DD.word x), .s (DD.name x), .ps (DD.sum x), .q .dd (DD.first x), .q .dd (DD.second x)]
  | .fn g c, x => [.f g (vals c x)]
  | .pt t, x => [.pq t x 0]
def cellss : (fs : List GT) → GT.dens fs → List V
  | [], _ => []
  | t :: r, x => cells t (densHd x) ++ cellss r (densTl x)
/-- The values of some data. -/
def vals : (fs : List GT) → GT.dens fs → List V
  | [], _ => []
  | t :: r, x => mkVal t.isAgg (cells t (densHd x)) :: vals r (densTl x)
end
/-- The value of typed data. -/
def val (T : GT) (x : T.den) : V := mkVal T.isAgg (cells T x)

def castL (T t : GT) (xs : List T.den) : List t.den := if h : GT.beq T t = true then GT.eq_of_beq T t h ▸ xs else []
def castD (T t : GT) (x : T.den) : t.den := if h : GT.beq T t = true then GT.eq_of_beq T t h ▸ x else t.dflt
/-- A slice's rows, of type t. -/
def unSl (t : GT) : V → List t.den
  | .q T xs => castL T t xs
  | _ => []
def okSl (t : GT) : V → Bool
  | .q T _ => GT.beq T t
  | .l id lo n => Nat.beq id 0 && (Nat.beq lo 0 && Nat.beq n 0)
  | _ => false

-- Data out of cells, and whether they are of the type.
mutual
def un : (T : GT) → List V → T.den
  | .b, cs => match cs with | [.b x] => x | _ => false
  | .i _, cs => match cs with | [.n _ x] => x | _ => (0 : Int)
  | .s, cs => match cs with | [.s x] => x | _ => (⟨#[]⟩ : ByteArray)
  | .st fs, cs => uns fs cs
  | .sl t, cs => match cs with | [v] => unSl t v | _ => []
  | .ps, cs => match cs with | [.ps x] => x | _ => PS.nil
  | .dd, cs => match cs with
    | [.s w, .s n, .ps s, v, v'] => DD.mk w n s (unSl .dd v) (unSl .dd v')
    | _ => DD.mk ⟨#[]⟩ ⟨#[]⟩ .nil [] []
  | .fn _ c, cs => match cs with | [.f _ vs] => unvs c vs | _ => GT.dflts c
  | .pt t, cs => match cs with | [.pq T x _] => castD T t x | _ => t.dflt
def uns : (fs : List GT) → List V → GT.dens fs
  | [], _ => ()
  | t :: r, cs => densMk (un t (cs.take t.size)) (uns r (cs.drop t.size))
def unvs : (fs : List GT) → List V → GT.dens fs
  | [], _ => ()
  | t :: r, vs => match vs with | v :: q => densMk (un t v.cellsOf) (unvs r q) | [] => densMk t.dflt (GT.dflts r)
end
mutual
def okc : GT → List V → Bool
  | .b, cs => match cs with | [.b _] => true | _ => false
  | .i k, cs => match cs with | [.n k' _] => decide (k = k') | _ => false
  | .s, cs => match cs with | [.s _] => true | _ => false
  | .st fs, cs => okcs fs cs
  | .sl t, cs => match cs with | [v] => okSl t v | _ => false
  | .ps, cs => match cs with | [.ps _] => true | _ => false
  | .dd, cs => match cs with
    | [.s _, .s _, .ps _, v, v'] => okSl .dd v && okSl .dd v'
    | _ => false
  | .fn g c, cs => match cs with | [.f g' vs] => Nat.beq g g' && okvs c vs | _ => false
  | .pt t, cs => match cs with | [.pq T _ j] => GT.beq T t && Nat.beq j 0 | _ => false
def okcs : List GT → List V → Bool
  | [], cs => match cs with | [] => true | _ => false
  | t :: r, cs => okc t (cs.take t.size) && okcs r (cs.drop t.size)
def okvs : List GT → List V → Bool
  | [], vs => match vs with | [] => true | _ => false
  | t :: r, vs => match vs with | v :: q => (t.isAgg == v.isAgg && okc t v.cellsOf) && okvs r q | [] => false
end
def unv (T : GT) (v : V) : T.den := un T v.cellsOf
def okv (T : GT) (v : V) : Bool := T.isAgg == v.isAgg && okc T v.cellsOf

/-! ### Frames and memories -/
def Fr2 := List (Nat × V)
def Fr2.get : Fr2 → Nat → V
  | [], _ => .u
  | (k, v) :: r, t => bif Nat.beq k t then v else Fr2.get r t
def Fr2.set (fr : Fr2) (d : Nat) (v : V) : Fr2 := (d, v) :: fr
def Fr2.setO (fr : Fr2) (d : Option Nat) (v : V) : Fr2 := match d with | some d => (d, v) :: fr | none => fr
def Fr2.dim (fr : Fr2) : List Nat → Fr2
  | [] => fr
  | d :: r => (d, .u) :: Fr2.dim fr r
def Fr2.ofArgs : Nat → List V → Fr2
  | _, [] => []
  | i, v :: r => (i, v) :: Fr2.ofArgs (i + 1) r
inductive Blk2 where
  | un (k : Nat) (rows : List (List V))
  | ty (T : GT) (xs : List T.den)
  | dead
def Hp.getL : List (Nat × Blk2) → Nat → Blk2
  | [], _ => .dead
  | (k, B) :: r, id => bif Nat.beq k id then B else Hp.getL r id
structure Hp where
  nx : Nat
  l : List (Nat × Blk2)
def Hp.get (H : Hp) (id : Nat) : Blk2 := Hp.getL H.l id
def Hp.push (H : Hp) (B : Blk2) : Hp := ⟨H.nx + 1, (H.nx, B) :: H.l⟩
def Hp.put (H : Hp) (id : Nat) (B : Blk2) : Hp := ⟨H.nx, (id, B) :: H.l⟩
def Hp.kill (H : Hp) (id : Nat) : Hp := bif Nat.beq id 0 then H else ⟨H.nx, (id, .dead) :: H.l⟩
def Hp.empty : Hp := ⟨1, []⟩

mutual
/-- Constants as values. -/
def ofAV : AV → V
  | .b x => .b x
  | .n k x => .n k x
  | .s x => .s x
  | .pn => .pn
  | .l id lo n => bif Nat.beq id 0 && (Nat.beq lo 0 && Nat.beq n 0) then .l 0 0 0 else .u
  | .a cs => .a (ofAVs cs)
  | .t cs => .t (ofAVs cs)
  | .f g cap => .f g (ofAVs cap)
  | .en => .en
  | .e ty v => .e ty (ofAV v)
  | _ => .u
def ofAVs : List AV → List V
  | [] => []
  | v :: r => ofAV v :: ofAVs r
end
def Fr2.ev (fr : Fr2) : Od → V
  | .t k => fr.get k
  | .c v => ofAV v

/-- What is known of callees: of pure ones (asked, and answered); of types' '=='; of those that write. -/
structure Orac where
  isP : FuncId → Bool
  ct : FuncId → List V → Bool × V
  eq : TypeId → List Nat
  mo : FuncId → List V → Hp → Bool × V × Hp
  mt : FuncId → List V → Hp → Bool × V × Hp
def Orac.calm (O : Orac) : Orac := { O with isP := fun _ => true }

/-! ### Numbers compared, in a way that the kernel stops at what it does not know -/
def ile : Int → Int → Bool
  | .ofNat m, .ofNat n => Nat.ble m n
  | .negSucc _, .ofNat _ => true
  | .ofNat _, .negSucc _ => false
  | .negSucc m, .negSucc n => Nat.ble n m
def ieq : Int → Int → Bool
  | .ofNat m, .ofNat n => Nat.beq m n
  | .negSucc m, .negSucc n => Nat.beq m n
  | _, _ => false
def ilt (a b : Int) : Bool := !ile b a
theorem ile_eq (a b : Int) : ile a b = decide (a ≤ b) := by
  rw [Bool.eq_iff_iff, decide_eq_true_eq]
  cases a <;> cases b <;> simp only [ile, Nat.ble_eq, Bool.false_eq_true, true_iff, false_iff, Int.ofNat_eq_natCast, Int.negSucc_eq] <;> omega
theorem ilt_eq (a b : Int) : ilt a b = decide (a < b) := by
  rw [ilt, ile_eq, ← decide_not, Bool.eq_iff_iff, decide_eq_true_eq, decide_eq_true_eq]
  omega
theorem ieq_eq (a b : Int) : ieq a b = decide (a = b) := by
  rw [Bool.eq_iff_iff, decide_eq_true_eq]
  cases a <;> cases b <;> simp only [ieq, Nat.beq_eq, Bool.false_eq_true, false_iff, Int.ofNat_eq_natCast, Int.negSucc_eq] <;> omega

/-! ### Operations -/
abbrev Tr := Bool × V × Hp
def Tr.bad (H : Hp) : Tr := (false, .u, H)
def inb (v : Int) (n : Nat) : Bool := ile 0 v && ilt v (n : Int)
def V.leaf : V → Bool
  | .a _ | .t _ | .u => false
  | _ => true
def leafs : List V → Bool
  | [] => true
  | v :: r => v.leaf && leafs r
def V.kd : V → Nat
  | .b _ => 0
  | .s _ => 1
  | .n k _ => IntKind.nr k
  | _ => 99
def nth (l : List V) (i : Nat) : V := match l, i with
  | [], _ => .u
  | v :: _, 0 => v
  | _ :: r, i + 1 => nth r i
/-- A part of cells. -/
def part (ag : Bool) (sz off : Nat) (cs : List V) : Bool × V :=
  (Nat.ble (off + sz) cs.length && (ag || Nat.ble 1 sz), bif ag then .a ((cs.drop off).take sz) else nth cs off)
def putV (l : List V) (off : Nat) (vs : List V) : List V := l.take off ++ vs ++ l.drop (off + vs.length)
/-- The rows of a slice. -/
inductive Cn where
  | un (k : Nat) (rows : List (List V))
  | ty (T : GT) (xs : List T.den)
  | nil
  | bad
def cnt (H : Hp) : V → Cn
  | .w id => match H.get id with
    | .ty T xs => .ty T xs
    | .un k rows => .un k rows
    | .dead => .bad
  | .l id lo n => bif Nat.beq id 0 then .nil else match H.get id with
    | .ty T xs => .ty T ((xs.drop lo).take n)
    | .un k rows => .un k ((rows.drop lo).take n)
    | .dead => .bad
  | .q T xs => .ty T xs
  | _ => .bad
def idOf : V → Option Nat
  | .w id => some id
  | .l id _ _ => some id
  | _ => none

def rbin (op : BinOp) (x y : V) : Bool × V :=
  match x, y with
  | .n k a, .n k' b =>
    match op with
    | .shl => (ile 0 b, .n k (k.wrap (a * 2 ^ (min b.toNat k.bits))))
    | .shr => (ile 0 b, .n k (a.fdiv (2 ^ (min b.toNat k.bits))))
    | .add => (decide (k = k'), .n k (k.wrap (a + b)))
    | .sub => (decide (k = k'), .n k (k.wrap (a - b)))
    | .mul => (decide (k = k'), .n k (k.wrap (a * b)))
    | .quo => (decide (k = k') && !ieq b 0, .n k (k.wrap (a.tdiv b)))
    | .rem => (decide (k = k') && !ieq b 0, .n k (a.tmod b))
    | .and => (decide (k = k'), .n k (bitsv .and k a b))
    | .or => (decide (k = k'), .n k (bitsv .or k a b))
    | .xor => (decide (k = k'), .n k (bitsv .xor k a b))
    | .andNot => (decide (k = k'), .n k (bitsv .andNot k a b))
    | .eql => (decide (k = k'), .b (ieq a b))
    | .neq => (decide (k = k'), .b (!ieq a b))
    | .lss => (decide (k = k'), .b (ilt a b))
    | .leq => (decide (k = k'), .b (ile a b))
    | .gtr => (decide (k = k'), .b (ilt b a))
    | .geq => (decide (k = k'), .b (ile b a))
  | .s a, .s b =>
    match op with
    | .add => (decide (a.size + b.size ≤ 9223372036854775807), .s (a ++ b))
    | .eql => (true, .b (decide (a = b)))
    | .neq => (true, .b (!decide (a = b)))
    | .lss => (true, .b (Op.bytesLess a.toList b.toList))
    | .leq => (true, .b (Op.bytesLess a.toList b.toList || decide (a = b)))
    | .gtr => (true, .b (!(Op.bytesLess a.toList b.toList || decide (a = b))))
    | .geq => (true, .b (!Op.bytesLess a.toList b.toList))
    | _ => (false, .u)
  | _, _ => (false, .u)
def run1 (op : UnOp) (x : V) : Bool × V :=
  match op, x with
  | .neg, .n k a => (true, .n k (k.wrap (0 - a)))
  | .xor, .n k a => (true, .n k (bitsv .xor k (if k.signed then -1 else k.max) a))
  | .not, .b a => (true, .b !a)
  | _, _ => (false, .u)
def req1 : V → V → Bool
  | .b x, .b y => x == y
  | .n _ x, .n _ y => ieq x y
  | .s x, .s y => decide (x = y)
  | _, _ => false
def reqs : List V → List V → Bool
  | [], _ => true
  | x :: xs, y :: ys => match xs with
    | [] => req1 x y
    | _ :: _ => req1 x y && reqs xs ys
  | _, _ => false
def kds : List V → List Nat
  | [] => []
  | v :: r => v.kd :: kds r
def beqN : List Nat → List Nat → Bool
  | [], [] => true
  | x :: r, y :: q => Nat.beq x y && beqN r q
  | _, _ => false
def fill2 (fr : Fr2) : List V → List (Nat × Nat × Od) → List V
  | z, [] => z
  | z, (off, _, x) :: r => fill2 fr (putV z off (fr.ev x).cellsOf) r
def fillOk (fr : Fr2) (len : Nat) : List (Nat × Nat × Od) → Bool
  | [] => true
  | (off, sz, x) :: r => (Nat.beq (fr.ev x).cellsOf.length sz && leafs (fr.ev x).cellsOf && Nat.ble (off + sz) len) && fillOk fr len r
def evs (fr : Fr2) : List Od → List V
  | [] => []
  | x :: r => fr.ev x :: evs fr r
def rowsOf : List V → List (List V)
  | [] => []
  | v :: r => v.cellsOf :: rowsOf r
def rowsOk (k : Nat) : List V → Bool
  | [] => true
  | v :: r => (Nat.beq v.cellsOf.length k && leafs v.cellsOf) && rowsOk k r
def unRows (T : GT) : List V → List T.den
  | [] => []
  | v :: r => un T v.cellsOf :: unRows T r
def okRows (T : GT) : List V → Bool
  | [] => true
  | v :: r => okc T v.cellsOf && okRows T r
def mm2 (max : Bool) (k : IntKind) : Int → List V → Bool × V
  | x, [] => (true, .n k x)
  | x, .n k' y :: r => match mm2 max k (bif max then (if y > x then y else x) else (if y < x then y else x)) r with
    | (ok, v) => (decide (k = k') && ok, v)
  | _, _ => (false, .u)
def mm1 (max : Bool) : List V → Bool × V
  | .n k x :: r => mm2 max k x r
  | _ => (false, .u)
/-- A bound of a slicing. -/
def bnd2 (fr : Fr2) (o : Option Od) (dflt : Int) : Bool × Int :=
  match o with
  | none => (true, dflt)
  | some x => match fr.ev x with
    | .n _ v => (true, v)
    | _ => (false, 0)
/-- Is the slicing within bounds? -/
def slOk (lo hi : Option Od) (l h n : Int) : Bool := match lo, hi with
  | none, none => true
  | none, some _ => ile 0 h && ile h n
  | some _, none => ile 0 l && ile l n
  | some _, some _ => ile 0 l && (ile l h && ile h n)
def mkOk (by_ : Nat) (v : Int) : Bool := ile 0 v && (ilt v 9223372036854775808 && ile (by_ * v) 281474976710656)
def slN (lo hi : Option Od) (l h : Int) : Nat := match lo, hi with
  | none, _ => h.toNat
  | some _, _ => h.toNat - l.toNat

def qsub {α : Type} (hi : Option Od) (xs : List α) (l n : Nat) : List α := match hi with
  | none => xs.drop l
  | some _ => (xs.drop l).take n
mutual
/-- Does a value name a block? -/
def V.ided : V → Bool
  | .p .. | .w _ => true
  | .l id _ _ => !Nat.beq id 0
  | .a cs => V.ideds cs
  | .t cs => V.ideds cs
  | .f _ cap => V.ideds cap
  | .e _ v => V.ided v
  | _ => false
def V.ideds : List V → Bool
  | [] => false
  | v :: r => V.ided v || V.ideds r
end
/-- One cell as typed data. -/
def gtOf : V → Option ((T : GT) × T.den)
  | .b x => some ⟨.b, x⟩
  | .n k x => some ⟨.i k, x⟩
  | .s x => some ⟨.s, x⟩
  | .q T xs => some ⟨.sl T, xs⟩
  | .ps x => some ⟨.ps, x⟩
  | _ => none
mutual
/-- A value told by content. -/
def frz (H : Hp) : V → V
  | .w id => match H.get id with
    | .ty T xs => .q T xs
    | _ => .u
  | .l id lo n => bif Nat.beq id 0 then .l 0 0 0 else match H.get id with
    | .ty T xs => .q T ((xs.drop lo).take n)
    | _ => .u
  | .p id i j => match H.get id with
    | .ty T xs => .pq T (xs.getD i T.dflt) j
    | .un _ [[v]] => match gtOf v with | some ⟨T, x⟩ => .pq T x j | none => .u
    | _ => .u
  | .a cs => .a (frzs H cs)
  | .t cs => .t (frzs H cs)
  | .f g cap => .f g (frzs H cap)
  | v => v
def frzs (H : Hp) : List V → List V
  | [] => []
  | v :: r => frz H v :: frzs H r
end
def V.scal : V → Bool
  | .b _ | .n .. | .s _ | .pn | .en => true
  | _ => false

def bytesI (xs : List Int) : ByteArray := ⟨(xs.map fun v => UInt8.ofNat v.toNat).toArray⟩
/-- What an operation yields: whether all is well, its value, the memory. 'τ': the type of the rows of a slice that is made. -/
def rop (O : Orac) (τ : Option GT) (o : AOp) (fr : Fr2) (H : Hp) : Tr :=
  match o with
  | .mov x => (true, fr.ev x, H)
  | .pick c x y => match fr.ev c, fr.ev x, fr.ev y with
    | .b c, .b x, .b y => (true, .b (bif c then x else y), H)
    | _, _, _ => Tr.bad H
  | .bin op x y => match rbin op (fr.ev x) (fr.ev y) with
    | (ok, v) => (ok, v, H)
  | .beq neg x y => match fr.ev x, fr.ev y with
    | .b p, .b q => (true, .b (bif neg then !(p == q) else p == q), H)
    | _, _ => Tr.bad H
  | .eqs neg ty x y => match fr.ev x, fr.ev y with
    | .a xs, .a ys => (Nat.ble 1 xs.length && (beqN (O.eq ty) (kds xs) && beqN (O.eq ty) (kds ys)), .b (bif neg then !reqs xs ys else reqs xs ys), H)
    | _, _ => Tr.bad H
  | .eqn kd neg x => match kd with
    | 0 => match fr.ev x with
      | .pn => (true, .b (bif neg then false else true), H)
      | .p .. => (true, .b (bif neg then true else false), H)
      | _ => Tr.bad H
    | 1 => match fr.ev x with
      | .en => (true, .b (bif neg then false else true), H)
      | .e .. => (true, .b (bif neg then true else false), H)
      | _ => Tr.bad H
    | _ => match fr.ev x with
      | .l id _ _ => (Nat.beq id 0, .b (bif neg then false else true), H)
      | _ => Tr.bad H
  | .un op x => match run1 op (fr.ev x) with
    | (ok, v) => (ok, v, H)
  | .conv k x => match fr.ev x with
    | .n _ v => (true, .n k (k.wrap v), H)
    | _ => Tr.bad H
  | .bts x => match cnt H (fr.ev x) with
    | .ty T xs => (GT.beq T (.i .u8), .s (bytesI (castL T (.i .u8) xs)), H)
    | .nil => (true, .s ⟨#[]⟩, H)
    | _ => Tr.bad H
  | .fld off sz ag x => match fr.ev x with
    | .a cs => match part ag sz off cs with
      | (ok, v) => (ok, v, H)
    | _ => Tr.bad H
  | .ext ix x => match fr.ev x with
    | .t cs => (Nat.blt ix cs.length, nth cs ix, H)
    | _ => Tr.bad H
  | .nilc x => match fr.ev x with
    | .p id i j => (true, .p id i j, H)
    | .pq T r j => (true, .pq T r j, H)
    | _ => Tr.bad H
  | .fad off x => match fr.ev x with
    | .p id i j => (true, .p id i (j + off), H)
    | .pq T r j => (true, .pq T r (j + off), H)
    | _ => Tr.bad H
  | .iad k x ix => match fr.ev ix with
    | .n _ v => match fr.ev x with
      | .w id => match H.get id with
        | .ty T xs => (Nat.beq T.size k && inb v xs.length, .p id v.toNat 0, H)
        | .un k' rows => (Nat.beq k' k && inb v rows.length, .p id v.toNat 0, H)
        | .dead => Tr.bad H
      | .l id lo n => match H.get id with
        | .ty T _ => (Nat.beq T.size k && inb v n, .p id (lo + v.toNat) 0, H)
        | .un k' _ => (Nat.beq k' k && inb v n, .p id (lo + v.toNat) 0, H)
        | .dead => Tr.bad H
      | .q T xs => (Nat.beq T.size k && inb v xs.length, .pq T (xs.getD v.toNat T.dflt) 0, H)
      | _ => Tr.bad H
    | _ => Tr.bad H
  | .idx x ix => match fr.ev x, fr.ev ix with
    | .s x, .n _ v => (inb v x.size, .n .u8 (x[v.toNat]!).toNat, H)
    | _, _ => Tr.bad H
  | .sls k x lo hi => match bnd2 fr lo 0 with
    | (ok1, l) => match fr.ev x with
      | .w id => match H.get id with
        | .ty T xs => match bnd2 fr hi (xs.length : Int) with
          | (ok2, h) => ((ok1 && ok2) && (Nat.beq T.size k && slOk lo hi l h xs.length), .l id l.toNat (slN lo hi l h), H)
        | .un k' rows => match bnd2 fr hi (rows.length : Int) with
          | (ok2, h) => ((ok1 && ok2) && (Nat.beq k' k && slOk lo hi l h rows.length), .l id l.toNat (slN lo hi l h), H)
        | .dead => Tr.bad H
      | .l id lo0 n => match bnd2 fr hi (n : Int) with
        | (ok2, h) => ((ok1 && ok2) && ((match H.get id with
          | .ty T _ => Nat.beq T.size k
          | .un k' _ => Nat.beq k' k
          | .dead => false) && slOk lo hi l h n), .l id (lo0 + l.toNat) (slN lo hi l h), H)
      | .q T xs => match bnd2 fr hi (xs.length : Int) with
        | (ok2, h) => ((ok1 && ok2) && (Nat.beq T.size k && slOk lo hi l h xs.length), .q T (qsub hi xs l.toNat (slN lo hi l h)), H)
      | _ => Tr.bad H
  | .sst x lo hi => match fr.ev x with
    | .s s => match bnd2 fr lo 0, bnd2 fr hi (s.size : Int) with
      | (ok1, l), (ok2, h) => ((ok1 && ok2) && slOk lo hi l h s.size, .s (s.extract l.toNat h.toNat), H)
    | _ => Tr.bad H
  | .load sz ag x => match fr.ev x with
    | .p id i j => match H.get id with
      | .ty T xs => match part ag sz j (cells T (xs.getD i T.dflt)) with
        | (ok, v) => (ok, v, H)
      | .un _ rows => match rows[i]? with
        | some r => match part ag sz j r with
          | (ok, v) => (ok, v, H)
        | none => Tr.bad H
      | .dead => Tr.bad H
    | .pq T r j => match part ag sz j (cells T r) with
      | (ok, v) => (ok, v, H)
    | _ => Tr.bad H
  | .stor sz x v => match fr.ev x with
    | .p id i j => match H.get id with
      | .ty T xs => match fr.ev v with
        | v => match putV (cells T (xs.getD i T.dflt)) j v.cellsOf with
          | cs => (Nat.beq v.cellsOf.length sz && (Nat.ble (j + sz) T.size && (leafs v.cellsOf && okc T cs)), .t [], H.put id (.ty T (xs.set i (un T cs))))
      | .un k rows => match rows[i]? with
        | some r => match fr.ev v with
          | v => (Nat.beq v.cellsOf.length sz && (Nat.ble (j + sz) r.length && leafs v.cellsOf), .t [], H.put id (.un k (rows.set i (putV r j v.cellsOf))))
        | none => Tr.bad H
      | .dead => Tr.bad H
    | _ => Tr.bad H
  | .box v => match fr.ev v with
    | v => (leafs v.cellsOf, .p H.nx 0 0, H.push (.un v.cellsOf.length [v.cellsOf]))
  | .aloc zero => match ofAVs zero with
    | z => (leafs z, .p H.nx 0 0, H.push (.un z.length [z]))
  | .bld zero parts => (fillOk fr zero.length parts, .a (fill2 fr (ofAVs zero) parts), H)
  | .bsl k rows => match τ with
    | some T => (rowsOk k (evs fr rows) && (Nat.beq T.size k && okRows T (evs fr rows)), .w H.nx, H.push (.ty T (unRows T (evs fr rows))))
    | none => (rowsOk k (evs fr rows), .w H.nx, H.push (.un k (rowsOf (evs fr rows))))
  | .mks by_ zero len => match fr.ev len with
    | .n _ v => match τ with
      | some T => ((okc T (ofAVs zero) && leafs (ofAVs zero)) && mkOk by_ v, .w H.nx, H.push (.ty T (List.replicate v.toNat (un T (ofAVs zero)))))
      | none => (leafs (ofAVs zero) && mkOk by_ v, .w H.nx, H.push (.un zero.length (List.replicate v.toNat (ofAVs zero))))
    | _ => Tr.bad H
  | .mkf g cap => (true, .f g (evs fr cap), H)
  | .call f args => match fr.ev f with
    | .f g cap => match evs fr args ++ cap with
      | vs => bif O.isP g then (bif V.ideds vs then (match O.ct g (frzs H vs) with
          | (ok, v) => (v.scal && ok, v, H))
        else (match O.ct g vs with
          | (ok, v) => (ok, v, H))) else O.mo g vs H
    | _ => Tr.bad H
  | .callm f args => match fr.ev f with
    | .f g cap => O.mt g (evs fr args ++ cap) H
    | _ => Tr.bad H
  | .app by_ k x y => match idOf (fr.ev x), cnt H (fr.ev x), cnt H (fr.ev y) with
    | some id, .ty T xs, .ty U ys => (GT.beq U T && (Nat.beq T.size k && decide ((xs.length + ys.length) * by_ ≤ 70368744177664)), .w H.nx, (H.kill id).push (.ty T (xs ++ castL U T ys)))
    | some id, .ty T xs, .nil => (Nat.beq T.size k && decide (xs.length * by_ ≤ 70368744177664), .w H.nx, (H.kill id).push (.ty T xs))
    | some _, .nil, .ty T ys => (Nat.beq T.size k && decide (ys.length * by_ ≤ 70368744177664), .w H.nx, H.push (.ty T ys))
    | some _, .nil, .nil => match τ with
      | some T => (Nat.beq T.size k, .w H.nx, H.push (.ty T []))
      | none => Tr.bad H
    | some id, .un k1 xs, .un k2 ys => (Nat.beq k1 k && (Nat.beq k2 k && decide ((xs.length + ys.length) * by_ ≤ 70368744177664)), .w H.nx, (H.kill id).push (.un k (xs ++ ys)))
    | some _, .nil, .un k2 ys => (Nat.beq k2 k && decide (ys.length * by_ ≤ 70368744177664), .w H.nx, H.push (.un k ys))
    | _, _, _ => Tr.bad H
  | .len str x => match fr.ev x with
    | .w id => match H.get id with
      | .ty _ xs => (!str, .n .i64 xs.length, H)
      | .un _ rows => (!str, .n .i64 rows.length, H)
      | .dead => Tr.bad H
    | .l _ _ n => (!str, .n .i64 n, H)
    | .q _ xs => (!str, .n .i64 xs.length, H)
    | .s x => (str, .n .i64 x.size, H)
    | _ => Tr.bad H
  | .mm max xs => match mm1 max (evs fr xs) with
    | (ok, v) => (ok, v, H)
  | .mif t x => (true, .e t (fr.ev x), H)
  | _ => Tr.bad H

section
variable {A : Type}
/-- A value is reckoned before anything follows. -/
def force (x : Tr) (K : Bool → V → Hp → A) : A :=
  match x with
  | (ok, v, ⟨nx, l⟩) => match v with
    | .b x => K ok (.b x) ⟨nx, l⟩
    | .n k x => K ok (.n k x) ⟨nx, l⟩
    | .s x => K ok (.s x) ⟨nx, l⟩
    | .pn => K ok .pn ⟨nx, l⟩
    | .p id i j => K ok (.p id i j) ⟨nx, l⟩
    | .l id i n => K ok (.l id i n) ⟨nx, l⟩
    | .w id => K ok (.w id) ⟨nx, l⟩
    | .q T xs => K ok (.q T xs) ⟨nx, l⟩
    | .pq T x j => K ok (.pq T x j) ⟨nx, l⟩
    | .a cs => K ok (.a cs) ⟨nx, l⟩
    | .t cs => K ok (.t cs) ⟨nx, l⟩
    | .f g cap => K ok (.f g cap) ⟨nx, l⟩
    | .en => K ok .en ⟨nx, l⟩
    | .e ty v => K ok (.e ty v) ⟨nx, l⟩
    | .ps x => K ok (.ps x) ⟨nx, l⟩
    | .pps x j => K ok (.pps x j) ⟨nx, l⟩
    | .u => K ok .u ⟨nx, l⟩
end

/-- No more than what is well. -/
def chk {α : Type} (ok : Bool) (r : Option α) : Option α := bif ok then r else none

def τat (τ : Nat → Option GT) : Option Nat → Option GT
  | some d => τ d
  | none => none
def chks {α : Type} : List Bool → Option α → Option α
  | [], r => r
  | ok :: l, r => chks l (chk ok r)
def okIf (c : Bool) : List Bool → List Bool → List Bool
  | [], l => l
  | ok :: r, l => (ok || c) :: okIf c r l

/-- Operations that leave the memory alone. -/
def calmO : AOp → Bool
  | .stor .. | .box _ | .aloc _ | .bsl .. | .mks .. | .callm .. | .app .. | .apps .. | .cpy .. | .no => false
  | _ => true
mutual
def calmI : AI → Bool
  | .op _ o => calmO o
  | .br _ _ body _ _ _ => calmIs body
def calmIs : List AI → Bool
  | [] => true
  | i :: r => calmI i && calmIs r
end

section
variable (τ : Nat → Option GT) {α : Type}
mutual
def ritem : Orac → AI → Fr2 → Hp → List Bool → (Fr2 → Hp → List Bool → Option α) → Option α
  | O, .op d o, fr, H, oks, K => force (rop O (τat τ d) o fr H) fun ok v H' => K (fr.setO d v) H' (ok :: oks)
  | O, .br t want body dl d x, fr, H, oks, K => match fr.get t with
    | .b c => bif calmIs body then (ritems O.calm body fr H [] fun fr' _ oks1 => match fr'.get x with
      | .b r1 => K ((fr.dim dl).set d (.b (bif want then c && r1 else c || r1))) H (okIf (bif want then !c else c) oks1 oks)
      | _ => none) else none
    | _ => none
def ritems : Orac → List AI → Fr2 → Hp → List Bool → (Fr2 → Hp → List Bool → Option α) → Option α
  | _, [], fr, H, oks, K => K fr H oks
  | O, i :: r, fr, H, oks, K => ritem O i fr H oks fun fr' H' oks' => ritems O r fr' H' oks' K
end
end

/-! ### Regions whose order is drawn, run along a plan -/
def memN (x : Nat) : List Nat → Bool
  | [] => false
  | y :: r => Nat.beq x y || memN x r
abbrev Chain := List (Nat × Bool)
def chainOf : List (Nat × Chain) → Nat → Chain
  | [], _ => []
  | (d, c) :: r, t => bif Nat.beq d t then c else chainOf r t
def lit (fr : Fr2) (t : Nat) (w : Bool) : Bool := match fr.get t with
  | .b c => bif w then c else !c
  | _ => false
/-- Are all that the chain asks for? -/
def actC (fr : Fr2) : Chain → Bool
  | [] => true
  | (t, w) :: r => match r with
    | [] => lit fr t w
    | _ :: _ => actC fr r && lit fr t w
def eqChain : Chain → Chain → Bool
  | [], [] => true
  | (t, w) :: r, (t', w') :: r' => Nat.beq t t' && (w == w' && eqChain r r')
  | _, _ => false
def sufx (c : Chain) : Chain → Bool
  | [] => eqChain c []
  | x :: r => eqChain c (x :: r) || sufx c r
def inChain (d : Nat) : Chain → Bool
  | [] => false
  | (t, _) :: r => Nat.beq t d || inChain d r
/-- May slot d be written: no chain asks for it, it was not written under a guard. -/
def freshD (d : Nat) : List (Nat × Chain) → Bool
  | [] => true
  | (k, c) :: r => (!Nat.beq k d && !inChain d c) && freshD d r
def odR : Od → List Nat
  | .t k => [k]
  | .c _ => []
def odsR : List Od → List Nat
  | [] => []
  | o :: r => odR o ++ odsR r
def odoR : Option Od → List Nat
  | some o => odR o
  | none => []
def partsR : List (Nat × Nat × Od) → List Nat
  | [] => []
  | (_, _, o) :: r => odR o ++ partsR r
/-- The slots that an operation reads. -/
def rdsO : AOp → List Nat
  | .mov x | .eqn _ _ x | .un _ x | .conv _ x | .bts x | .fld _ _ _ x | .ext _ x | .nilc x | .fad _ x | .load _ _ x | .box x | .mks _ _ x | .len _ x | .mif _ x => odR x
  | .pick c x y => odR c ++ (odR x ++ odR y)
  | .bin _ x y | .beq _ x y | .eqs _ _ x y | .iad _ x y | .idx x y | .stor _ x y | .app _ _ x y | .apps x y | .cpy _ x y => odR x ++ odR y
  | .sls _ x lo hi | .sst x lo hi => odR x ++ (odoR lo ++ odoR hi)
  | .aloc _ | .no => []
  | .bld _ ps => partsR ps
  | .bsl _ rows => odsR rows
  | .mkf _ cap => odsR cap
  | .call f as | .callm f as => odR f ++ odsR as
  | .mm _ xs => odsR xs
def readsOk (A : List (Nat × Chain)) (ch : Chain) : List Nat → Bool
  | [] => true
  | t :: r => sufx (chainOf A t) ch && readsOk A ch r
/-- A choice at a tree's end: what it asks, its result, '&&'? -/
def pickOf : AOp → Option (Nat × Nat × Bool)
  | .pick (.t t) (.t x) (.c (.b false)) => some (t, x, true)
  | .pick (.t t) (.c (.b true)) (.t x) => some (t, x, false)
  | _ => none
def gChain (A : List (Nat × Chain)) : Option (Nat × Bool) → Chain
  | none => []
  | some (t, w) => (t, w) :: chainOf A t
/-- The blocks that an operation reads ahead ('none': one that has no number); that it writes. -/
def rdIds (fr : Fr2) : AOp → Option (List Nat)
  | .load _ _ x => match fr.ev x with
    | .p id _ _ => some [id]
    | _ => none
  | .bts _ => none
  | _ => some []
def wrIds (fr : Fr2) : AOp → List Nat
  | .stor _ x _ => match fr.ev x with
    | .p id _ _ => [id]
    | _ => []
  | .app _ _ x _ => match idOf (fr.ev x) with
    | some id => [id]
    | none => []
  | _ => []
def isCallm : AOp → Bool
  | .callm .. => true
  | _ => false
def okAct (fr : Fr2) (ok : Bool) : Chain → Bool
  | [] => ok
  | c :: r => ok || !actC fr (c :: r)
def apartN : List Nat → List Nat → Bool
  | [], _ => true
  | x :: r, l => !memN x l && apartN r l
def keysN : List (Nat × Chain) → List Nat
  | [] => []
  | (d, _) :: r => d :: keysN r
section
variable (τ : Nat → Option GT) {α : Type} (O : Orac) (xs : List AO) (gs : List Nat) (Hs : Hp)
def addA (d : Option Nat) (ch : Chain) (A : List (Nat × Chain)) : List (Nat × Chain) := match d, ch with
  | some d, c :: r => (d, c :: r) :: A
  | _, _ => A
def gOk (fr : Fr2) : Option (Nat × Bool) → Bool
  | none => true
  | some (t, _) => match fr.get t with
    | .b _ => true
    | _ => false
def dstFresh (d : Option Nat) (ch : Chain) (A : List (Nat × Chain)) : Bool := match d with
  | some d => !inChain d ch && freshD d A
  | none => true
def notBts : AOp → Bool
  | .bts _ => false
  | _ => true
def aliveAll (H : Hp) : List Nat → Bool
  | [] => true
  | x :: r => (match H.get x with | .dead => false | _ => true) && aliveAll H r
def orcAt (O : Orac) : Chain → Orac
  | [] => O
  | _ :: _ => O.calm
def calmAt (o : AOp) : Chain → Bool
  | [] => true
  | _ :: _ => calmO o
def addIds : Option (List Nat) → List Nat → List Nat
  | some l, rs => l ++ rs
  | none, rs => rs
def rplan : Plan → Fr2 → Fr2 → List (Nat × Chain) → Hp → List Bool → List Nat → List Nat → (Fr2 → Hp → List Bool → Option α) → Option α
  | .done, _, fr, A, H, oks, rs, ws, K => bif apartN rs ws then K (fr.dim (keysN A)) H oks else none
  | .take i p, gfr, fr, A, H, oks, rs, ws, K => match xs[i]? with
    | none => none
    | some x => match gChain A x.g with
      | ch => bif dstFresh x.d ch A && (gOk fr x.g && (x.o.quiet && notBts x.o)) then
        (match pickOf x.o with
        | some (t, y, w) => bif sufx (chainOf A t) ch && eqChain (chainOf A y) ((t, w) :: chainOf A t) then
            (match fr.get t, fr.get y with
            | .b c, .b r => rplan p (gfr.setO x.d .u) (fr.setO x.d (.b (bif w then c && r else c || r))) (addA x.d ch A) H oks rs ws K
            | _, _ => none) else none
        | none => bif readsOk A ch (rdsO x.o) then (bif memN i gs then
            (force (rop O.calm (τat τ x.d) x.o gfr Hs) fun ok v _ =>
              rplan p (gfr.setO x.d v) (fr.setO x.d v) (addA x.d ch A) H (okAct fr ok ch :: oks) (addIds (rdIds gfr x.o) rs) ws K)
          else (match rdIds fr x.o with
            | some l => bif aliveAll Hs l then force (rop O.calm (τat τ x.d) x.o fr H) fun ok v _ =>
                rplan p (gfr.setO x.d .u) (fr.setO x.d v) (addA x.d ch A) H (okAct fr ok ch :: oks) (l ++ rs) ws K else none
            | none => none)) else none)
      else none
  | .all ps, gfr, fr, A, H, oks, rs, ws, K => match ps with
    | [(i, p)] => match xs[i]? with
      | none => none
      | some x => match gChain A x.g with
        | ch => bif (dstFresh x.d ch A && (gOk fr x.g && (readsOk A ch (rdsO x.o) && !isCallm x.o))) && calmAt x.o ch then
            force (rop (orcAt O ch) (τat τ x.d) x.o fr H) fun ok v H' =>
              rplan p (gfr.setO x.d .u) (fr.setO x.d v) (addA x.d ch A) H' (okAct fr ok ch :: oks) rs (wrIds fr x.o ++ ws) K
          else none
    | _ => none
end

/-! ### Texts -/
inductive RK where
  | reg
  | dline (n : Nat)
  | dlin (m n : Nat)
  | plan (p : Plan) (gs : List Nat)
/-- Where a nil slice is taken as an empty one of rows of type T: in a slot, in a cell that a slot points to. -/
inductive NA where
  | slot (t : Nat) (T : GT)
  | cell (t j : Nat) (T : GT)
  | part (t : Nat)
  | partc (t j : Nat)
inductive C2 where
  | skip
  | reg (k : RK) (is : List AI)
  | seq (x y : C2)
  | cond (c : Od) (x y : C2)
  | block (id : Nat) (x : C2)
  | loop (live : List Nat) (nils : List NA) (out : List Nat) (x : C2)
  | norm (live : List Nat) (nils : List NA) (x : C2)
  | exit (id : Nat)
  | ret
/-- Is a text one that the abstract machine's rules take? -/
def C2.wf : C2 → Bool
  | .reg .reg is => AI.oks is
  | .reg (.dline n) is => AI.oks is && (AI.flats none is).all (fun x => x.o.quiet) && (AI.flats none is).length == n
  | .reg (.dlin m n) is => AI.oks is && ((AI.flats none is).take m).all (fun x => x.o.quiet) && ((AI.flats none is).drop m).all (fun x => x.o.still) && (AI.flats none is).length == m + n
  | .reg (.plan _ _) is => AI.oks is
  | .seq x y => x.wf && y.wf
  | .cond _ x y => x.wf && y.wf
  | .block _ x => x.wf
  | .loop _ _ _ x => x.wf
  | .norm _ _ x => x.wf
  | _ => true
def C2.toA : C2 → ACode
  | .skip => .skip
  | .reg .reg is => .reg (AI.flats none is)
  | .reg (.dline n) is => .dreg (Plan.line 0 n) (AI.flats none is)
  | .reg (.dlin m n) is => .dreg (Plan.lin 0 m n) (AI.flats none is)
  | .reg (.plan p _) is => .dreg p (AI.flats none is)
  | .seq x y => .seq x.toA y.toA
  | .cond c x y => .cond c x.toA y.toA
  | .block id x => .block id x.toA
  | .loop _ _ _ x => .loop x.toA
  | .norm _ _ x => x.toA
  | .exit id => .exit id
  | .ret => .ret

/-! ### Memories put in order -/
mutual
/-- The blocks that a value names, in order. -/
def V.ids : V → List Nat
  | .p id _ _ => [id]
  | .l id _ _ => [id]
  | .w id => [id]
  | .a cs => V.idss cs
  | .t cs => V.idss cs
  | .f _ cap => V.idss cap
  | .e _ v => V.ids v
  | _ => []
def V.idss : List V → List Nat
  | [] => []
  | v :: r => V.ids v ++ V.idss r
end
def rowIds : List (List V) → List Nat
  | [] => []
  | r :: q => V.idss r ++ rowIds q
/-- Old numbers, in the order of the new ones. -/
def reachL (H : Hp) : Nat → List Nat → List Nat → List Nat
  | 0, _, acc => acc
  | _ + 1, [], acc => acc
  | n + 1, id :: todo, acc => bif Nat.beq id 0 || memN id acc then reachL H n todo acc else match H.get id with
    | .un _ rows => reachL H n (todo ++ rowIds rows) (acc ++ [id])
    | .ty _ _ => reachL H n todo (acc ++ [id])
    | .dead => reachL H n todo acc
def look : List Nat → Nat → Nat → Option Nat
  | [], _, _ => none
  | x :: r, i, id => bif Nat.beq x id then some i else look r (i + 1) id
mutual
def renV (m : List Nat) : V → V
  | .p id i j => match look m 1 id with | some k => .p k i j | none => .u
  | .l id lo n => bif Nat.beq id 0 then .l 0 lo n else match look m 1 id with | some k => .l k lo n | none => .u
  | .w id => match look m 1 id with | some k => .w k | none => .u
  | .a cs => .a (renVs m cs)
  | .t cs => .t (renVs m cs)
  | .f g cap => .f g (renVs m cap)
  | .e ty v => .e ty (renV m v)
  | v => v
def renVs (m : List Nat) : List V → List V
  | [] => []
  | v :: r => renV m v :: renVs m r
end
def renR (m : List Nat) : List (List V) → List (List V)
  | [] => []
  | r :: q => renVs m r :: renR m q
def renB (m : List Nat) : Blk2 → Blk2
  | .un k rows => .un k (renR m rows)
  | B => B
def renH (m : List Nat) (H : Hp) : Nat → List Nat → List (Nat × Blk2)
  | _, [] => []
  | i, id :: r => (i, renB m (H.get id)) :: renH m H (i + 1) r
def pickF (m : List Nat) (fr : Fr2) : List Nat → Fr2
  | [] => []
  | t :: r => (t, renV m (fr.get t)) :: pickF m fr r
def liveIds (fr : Fr2) : List Nat → List Nat
  | [] => []
  | t :: r => V.ids (fr.get t) ++ liveIds fr r
def lenN : List Nat → Nat
  | [] => 0
  | _ :: r => lenN r + 1
def tidy {β : Type} (live : List Nat) (fr : Fr2) (H : Hp) (K : Fr2 → Hp → β) : β :=
  match reachL H 64 (liveIds fr live) [] with
  | m => K (pickF m fr live) ⟨lenN m + 1, renH m H 1 m⟩

def nil1 (fr : Fr2) (H : Hp) : NA → Fr2 × Hp
  | .slot t T => match fr.get t with
    | .l id _ _ => bif Nat.beq id 0 then (fr.set t (.w H.nx), H.push (.ty T [])) else (fr, H)
    | _ => (fr, H)
  | .cell t j T => match fr.get t with
    | .p id i _ => match H.get id with
      | .un k rows => match rows[i]? with
        | some row => match nth row j with
          | .l id' _ _ => bif Nat.beq id' 0 then (fr, (H.put id (.un k (rows.set i (putV row j [.w H.nx])))).push (.ty T [])) else (fr, H)
          | _ => (fr, H)
        | none => (fr, H)
      | _ => (fr, H)
    | _ => (fr, H)
  | .part t => match fr.get t with
    | .w id => match H.get id with
      | .ty _ xs => (fr.set t (.l id 0 xs.length), H)
      | _ => (fr, H)
    | _ => (fr, H)
  | .partc t j => match fr.get t with
    | .p id i _ => match H.get id with
      | .un k rows => match rows[i]? with
        | some row => match nth row j with
          | .w id' => match H.get id' with
            | .ty _ xs => (fr, H.put id (.un k (rows.set i (putV row j [.l id' 0 xs.length]))))
            | _ => (fr, H)
          | _ => (fr, H)
        | none => (fr, H)
      | _ => (fr, H)
    | _ => (fr, H)
def tidyN {β : Type} (live : List Nat) : List NA → Fr2 → Hp → (Fr2 → Hp → β) → β
  | [], fr, H, K => tidy live fr H K
  | a :: r, fr, H, K => match nil1 fr H a with
    | (fr', H') => tidyN live r fr' H' K

theorem lock_ex {α : Type} (x : α) : ∃ y, y = x := ⟨x, rfl⟩
/-- The same thing, of which the kernel sees nothing. -/
noncomputable def lock {α : Type} (x : α) : α := Classical.choose (lock_ex x)
theorem lock_eq {α : Type} (x : α) : lock x = x := Classical.choose_spec (lock_ex x)

/-! ### The run -/
noncomputable section
variable (O : Orac) (τ : Nat → Option GT) {α : Type} (N : Nat) (fin : Fr2 → Hp → Option α)
def blockK (i : Nat) (K : Option Nat → Fr2 → Hp → Option α) : Option Nat → Fr2 → Hp → Option α
  | none, fr, H => K none fr H
  | some id, fr, H => bif Nat.beq id i then K none fr H else K (some id) fr H
/-- Where a join's code goes on (the kernel compares it as it stands). -/
def atJ (C : Fr2 → Hp → Option α) (fr : Fr2) (H : Hp) : Option α := lock (C fr H)
theorem atJ_at (C : Fr2 → Hp → Option α) (fr : Fr2) (H : Hp) : atJ C fr H = C fr H := lock_eq _
theorem atJ_eq (C : Fr2 → Hp → Option α) : atJ C = C := funext fun fr => funext fun H => atJ_at C fr H
def normK (live : List Nat) (nils : List NA) (K : Option Nat → Fr2 → Hp → Option α) : Option Nat → Fr2 → Hp → Option α :=
  fun e fr H => tidyN live nils fr H (atJ (K e))
/-- Behind a round of a loop: 'C' what a further round yields. -/
def roundK (live : List Nat) (nils : List NA) (out : List Nat) (C : Fr2 → Hp → Option α) (K : Option Nat → Fr2 → Hp → Option α) : Option Nat → Fr2 → Hp → Option α
  | none, fr, H => tidyN live nils fr H C
  | some id, fr, H => tidyN out [] fr H (K (some id))
/-- A loop, so often at the most. -/
def rloop (body : Fr2 → Hp → (Option Nat → Fr2 → Hp → Option α) → Option α) (live : List Nat) (nils : List NA) (out : List Nat) (K : Option Nat → Fr2 → Hp → Option α) : Nat → Fr2 → Hp → Option α
  | 0, _, _ => none
  | n + 1, fr, H => body fr H (roundK live nils out (rloop body live nils out K n) K)
def seqK' (y : Fr2 → Hp → (Option Nat → Fr2 → Hp → Option α) → Option α) (K : Option Nat → Fr2 → Hp → Option α) : Option Nat → Fr2 → Hp → Option α
  | none, fr, H => y fr H K
  | some id, fr, H => K (some id) fr H
def rcode : C2 → Fr2 → Hp → (Option Nat → Fr2 → Hp → Option α) → Option α
  | .skip, fr, H, K => K none fr H
  | .reg (.plan p gs) is, fr, H, K => rplan τ O (AI.flats none is) gs H p fr fr [] H [] [] [] fun fr' H' oks => chks oks (K none fr' H')
  | .reg _ is, fr, H, K => ritems τ O is fr H [] fun fr' H' oks => chks oks (K none fr' H')
  | .seq x y, fr, H, K => rcode x fr H (seqK' (fun fr H K => rcode y fr H K) K)
  | .cond c x y, fr, H, K => match fr.ev c with
    | .b c => bif c then rcode x fr H K else rcode y fr H K
    | _ => none
  | .block i x, fr, H, K => rcode x fr H (blockK i K)
  | .loop live nils out x, fr, H, K => tidyN live nils fr H (rloop (fun fr H K => rcode x fr H K) live nils out K N)
  | .norm live nils x, fr, H, K => rcode x fr H (normK live nils K)
  | .exit id, fr, H, K => K (some id) fr H
  | .ret, fr, H, _ => fin fr H
end

/-! ### Functions -/
structure F2 where
  nt : Nat
  np : Nat
  res : List ARes
  τ : Nat → Option GT
  body : C2
def F2.toA (A : F2) : AFn := ⟨A.nt, A.np, A.res, A.body.toA⟩
def rres (fr : Fr2) (H : Hp) : List ARes → Bool × List V
  | [] => (true, [])
  | .t k :: r => match rres fr H r with
    | (ok, vs) => (ok, fr.get k :: vs)
  | .cell k sz ag :: r => match rres fr H r with
    | (ok, vs) => match fr.get k with
      | .p id i j => match H.get id with
        | .un _ rows => match rows[i]? with
          | some row => match part ag sz j row with
            | (ok1, v) => (ok1 && ok, v :: vs)
          | none => (false, [])
        | _ => (false, [])
      | _ => (false, [])
/-- A result, told by content, as typed data. -/
def decR (Rs : List GT) (fr : Fr2) (H : Hp) (res : List ARes) : Option (GT.dens Rs) :=
  match rres fr H res with
  | (ok, vs) => match frzs H vs with
    | vs => chk (ok && okvs Rs vs) (some (unvs Rs vs))
def encR : (Rs : List GT) → GT.dens Rs → V
  | [T], x => val T x
  | Rs, x => .t (vals Rs x)
def finF (Rs : List GT) (res : List ARes) (fr : Fr2) (H : Hp) : Option (GT.dens Rs) := decR Rs fr H res
def finK (Rs : List GT) (res : List ARes) : Option Nat → Fr2 → Hp → Option (GT.dens Rs)
  | none, fr, H => decR Rs fr H res
  | some _, _, _ => none
/-- A function's run on pure arguments. -/
noncomputable def runF (O : Orac) (N : Nat) (A : F2) (Rs : List GT) (args : List V) : Option (GT.dens Rs) :=
  rcode O A.τ N (finF Rs A.res) A.body (Fr2.ofArgs 0 args) Hp.empty (finK Rs A.res)
abbrev w64 (x : Int) : Int := IntKind.wrap .i64 x
/-- What is told of a pure function. -/
def mkO (Ts Rs : List GT) (pre : GT.dens Ts → Bool) (G : GT.dens Ts → GT.dens Rs) (vs : List V) : Bool × V :=
  match unvs Ts vs with
  | x => (okvs Ts vs && pre x, encR Rs (G x))
def ctL : List (FuncId × (List V → Bool × V)) → FuncId → List V → Bool × V
  | [], _, _ => (false, .u)
  | (g, o) :: r, f, vs => bif Nat.beq g f then o vs else ctL r f vs
def eqTab : List (TypeId × List Nat) → TypeId → List Nat
  | [], _ => []
  | (g, o) :: r, t => bif Nat.beq g t then o else eqTab r t
def orc (c : List (FuncId × (List V → Bool × V))) (e : List (TypeId × List Nat)) : Orac := ⟨fun _ => true, ctL c, eqTab e, fun _ _ H => Tr.bad H, fun _ _ H => Tr.bad H⟩
end Go.Proofs.Ytamnlngihccgiaa.AM
