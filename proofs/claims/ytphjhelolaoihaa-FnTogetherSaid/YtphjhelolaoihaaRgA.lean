/- The ring framework, part A: types of data, states, and the evaluator of a function's code over data. -/
import Derived.Calls
import Derived.Orders
set_option linter.all false
namespace Rg
open Go

/-! ### types of data -/
inductive Ty where
  | int (k : IntKind) | bool | str | sl (r : Ty) | ow (r : Ty) | nil | cons (t r : Ty) | alt (a b : Ty)

@[reducible] def Ty.Den : Ty → Type
  | .int _ => Int
  | .bool => Bool
  | .str => ByteArray
  | .sl r => List r.Den
  | .ow r => List r.Den
  | .nil => Unit
  | .cons t r => t.Den × r.Den
  | .alt a b => a.Den ⊕ b.Den

def kNum : IntKind → Nat
  | .i8 => 0 | .i16 => 1 | .i32 => 2 | .i64 => 3 | .u8 => 4 | .u16 => 5 | .u32 => 6 | .u64 => 7

def kBeq (a b : IntKind) : Bool := Nat.beq (kNum a) (kNum b)

theorem kBeq_eq {a b : IntKind} (h : kBeq a b = true) : a = b := by
  have h' := Nat.eq_of_beq_eq_true h
  cases a <;> cases b <;> first | rfl | (simp [kNum] at h')

def Ty.beq : Ty → Ty → Bool
  | .int a, .int b => kBeq a b
  | .bool, .bool => true
  | .str, .str => true
  | .sl a, .sl b => a.beq b
  | .ow a, .ow b => a.beq b
  | .nil, .nil => true
  | .cons a b, .cons c d => a.beq c && b.beq d
  | .alt a b, .alt c d => a.beq c && b.beq d
  | _, _ => false

theorem Ty.beq_eq : ∀ {a b : Ty}, a.beq b = true → a = b
  | .int a, .int b, h => by rw [kBeq_eq (a := a) (b := b) (by simpa [Ty.beq] using h)]
  | .bool, .bool, _ => rfl
  | .str, .str, _ => rfl
  | .sl a, .sl b, h => by rw [Ty.beq_eq (a := a) (b := b) (by simpa [Ty.beq] using h)]
  | .ow a, .ow b, h => by rw [Ty.beq_eq (a := a) (b := b) (by simpa [Ty.beq] using h)]
  | .nil, .nil, _ => rfl
  | .cons a b, .cons c d, h => by
    simp [Ty.beq] at h
    rw [Ty.beq_eq (a := a) (b := c) h.1, Ty.beq_eq (a := b) (b := d) h.2]
  | .alt a b, .alt c d, h => by
    simp [Ty.beq] at h
    rw [Ty.beq_eq (a := a) (b := c) h.1, Ty.beq_eq (a := b) (b := d) h.2]

/-- The same type, but for exclusive slices on the left where the right has shared ones. -/
def Ty.beqP : Ty → Ty → Bool
  | .int a, .int b => kBeq a b
  | .bool, .bool => true
  | .str, .str => true
  | .sl a, .sl b => a.beqP b
  | .ow a, .sl b => a.beqP b
  | .nil, .nil => true
  | .cons a b, .cons c d => a.beqP c && b.beqP d
  | _, _ => false

theorem Ty.beqP_den : ∀ {a b : Ty}, a.beqP b = true → a.Den = b.Den
  | .int a, .int b, _ => rfl
  | .bool, .bool, _ => rfl
  | .str, .str, _ => rfl
  | .sl a, .sl b, h => congrArg List (Ty.beqP_den (a := a) (b := b) (by simpa [Ty.beqP] using h))
  | .ow a, .sl b, h => congrArg List (Ty.beqP_den (a := a) (b := b) (by simpa [Ty.beqP] using h))
  | .nil, .nil, _ => rfl
  | .cons a b, .cons c d, h => by
    simp [Ty.beqP] at h
    show (a.Den × b.Den) = (c.Den × d.Den)
    rw [Ty.beqP_den (a := a) (b := c) h.1, Ty.beqP_den (a := b) (b := d) h.2]

def Ty.size : Ty → Nat
  | .nil => 0
  | .cons t r => t.size + r.size
  | .alt _ _ => 0
  | _ => 1

def Ty.zero : (t : Ty) → t.Den
  | .int _ => (0 : Int)
  | .bool => false
  | .str => (⟨#[]⟩ : ByteArray)
  | .sl _ => []
  | .ow _ => []
  | .nil => ()
  | .cons t r => (t.zero, r.zero)
  | .alt a _ => .inl a.zero

/-- No exclusive part. -/
def Ty.plain : Ty → Bool
  | .ow _ => false
  | .sl r => r.plain
  | .cons t r => t.plain && r.plain
  | .alt _ _ => false
  | _ => true

/-- No shared part. -/
def Ty.noSl : Ty → Bool
  | .sl _ => false
  | .ow r => r.noSl
  | .cons t r => t.noSl && r.noSl
  | .alt _ _ => false
  | _ => true

/-- A type of memory for elements: no alternative in it. -/
def Ty.isAgg : Ty → Bool
  | .nil => true
  | .cons _ _ => true
  | _ => false

/-- Equality of data of comparable types. -/
def Ty.eqB : (t : Ty) → t.Den → t.Den → Bool
  | .int _, (x : Int), (y : Int) => x == y
  | .bool, (x : Bool), (y : Bool) => x == y
  | .str, (x : ByteArray), (y : ByteArray) => x.toList == y.toList
  | .sl _, _, _ => false
  | .ow _, _, _ => false
  | .nil, _, _ => true
  | .cons t r, x, y => t.eqB x.1 y.1 && r.eqB x.2 y.2
  | .alt _ _, _, _ => false

/-! ### cells of data, states -/
inductive LC where
  | dat (t : Ty) (x : t.Den)
  | nl (r : Ty)
  | hdl (e : Nat)

inductive SV where
  | undef
  | cell (c : LC)
  | agg (cs : List LC)
  | ptr (b off : Nat)
  | elP (r : Ty) (x : r.Den) (off : Nat)
  | elX (e : Nat) (i : Int) (off : Nat)
  | clo (f : Nat) (bs : List Nat)

inductive KV where
  | none
  | sv (s : SV)
  | tup (l : List SV)
  | box (cs : List LC)
  | ex (r : Ty) (xs : List r.Den)
  | fz (r : Ty) (xs : List r.Den)
  | gone
  | held (r : Ty) (n : Nat)

abbrev Sg := Nat → KV
def kS (n : Nat) : Nat := 3 * n
def kB (n : Nat) : Nat := 3 * n + 1
def kX (n : Nat) : Nat := 3 * n + 2

def put (σ : Sg) (k : Nat) (v : KV) : Sg := fun n => bif Nat.beq n k then v else σ n
def puts (σ : Sg) : List (Nat × KV) → Sg
  | [] => σ
  | (k, v) :: l => puts (put σ k v) l

/-! ### what one operation asks of a state -/
inductive T (α : Type) where
  | pure (a : α)
  | get (k : Nat) (f : KV → T α)
  | chk (b : Bool) (t : T α)
  | br (b : Bool) (x y : T α)
  | grd (k : Nat) (want : Bool) (x y : T α)
  | ask (r : Ty) (o : Option r.Den) (f : r.Den → T α)
  | fail

def T.bind {α β : Type} : T α → (α → T β) → T β
  | .pure a, f => f a
  | .get k g, f => .get k fun v => (g v).bind f
  | .chk b t, f => .chk b (t.bind f)
  | .br b x y, f => .br b (x.bind f) (y.bind f)
  | .grd k w x y, f => .grd k w (x.bind f) (y.bind f)
  | .ask r o g, f => .ask r o fun y => (g y).bind f
  | .fail, _ => .fail

/-- The answer at a state, and the keys that were read. -/
def T.eval {α : Type} (σ : Sg) : T α → List Nat → Option (α × List Nat)
  | .pure a, rs => some (a, rs)
  | .get k f, rs => (f (σ k)).eval σ (k :: rs)
  | .chk b t, rs => bif b then t.eval σ rs else none
  | .br b x y, rs => bif b then x.eval σ rs else y.eval σ rs
  | .grd k w x y, rs => match σ k with
    | .sv (.cell (.dat .bool b)) => bif b then (bif w then x.eval σ (k :: rs) else y.eval σ (k :: rs)) else (bif w then y.eval σ (k :: rs) else x.eval σ (k :: rs))
    | .sv .undef => y.eval σ (k :: rs)
    | _ => none
  | .ask _ o f, rs => match o with
    | some y => (f y).eval σ rs
    | none => none
  | .fail, _ => none

/-- The same with what comes behind it. -/
def T.run {α R : Type} (σ : Sg) : T α → List Nat → (Sg → α → List Nat → Option R) → Option R
  | .pure a, rs, k => k σ a rs
  | .get key f, rs, k => (f (σ key)).run σ (key :: rs) k
  | .chk b t, rs, k => bif b then t.run σ rs k else none
  | .br b x y, rs, k => bif b then x.run σ rs k else y.run σ rs k
  | .grd key w x y, rs, k => match σ key with
    | .sv (.cell (.dat .bool b)) =>
      bif b then
        (bif w then x.run (put σ key (.sv (.cell (.dat .bool true)))) (key :: rs) k else y.run (put σ key (.sv (.cell (.dat .bool true)))) (key :: rs) k)
      else
        (bif w then y.run (put σ key (.sv (.cell (.dat .bool false)))) (key :: rs) k else x.run (put σ key (.sv (.cell (.dat .bool false)))) (key :: rs) k)
    | .sv .undef => y.run σ (key :: rs) k
    | _ => none
  | .ask _ o f, rs, k => o.bind fun y => (f y).run σ rs k
  | .fail, _, _ => none

/-! ### data in cells -/
def castD (t t' : Ty) (x : t.Den) : Option t'.Den :=
  match h : t.beq t' with
  | true => some (Ty.beq_eq h ▸ x)
  | false => none

def castL (t t' : Ty) (x : List t.Den) : Option (List t'.Den) :=
  match h : t.beq t' with
  | true => some (Ty.beq_eq h ▸ x)
  | false => none

def castP (t t' : Ty) (x : List t.Den) : Option (List t'.Den) :=
  match h : t.beqP t' with
  | true => some (cast (congrArg List (Ty.beqP_den h)) x)
  | false => none

def xi (r : Ty) (xs : List r.Den) (i : Int) : r.Den := xs.getD i.toNat r.zero
def T.ofO {α : Type} : Option α → T α
  | some a => .pure a
  | none => .fail

/-- The cells of data without exclusive parts ('ow' becomes a plain slice). -/
def Ty.lcs : (t : Ty) → t.Den → List LC
  | .int k, x => [.dat (.int k) x]
  | .bool, x => [.dat .bool x]
  | .str, x => [.dat .str x]
  | .sl r, x => [.dat (.sl r) x]
  | .ow r, x => [.dat (.sl r) x]
  | .nil, _ => []
  | .cons t r, x => t.lcs x.1 ++ r.lcs x.2
  | .alt _ _, _ => []

/-- The cells of the zero value: slices are nil. -/
def Ty.zcs : Ty → List LC
  | .int k => [.dat (.int k) (0 : Int)]
  | .bool => [.dat .bool false]
  | .str => [.dat .str (⟨#[]⟩ : ByteArray)]
  | .sl r => [.nl r]
  | .ow r => [.nl r]
  | .nil => []
  | .cons t r => t.zcs ++ r.zcs
  | .alt _ _ => []

/-- The cells of data, exclusive parts by handles with numbers from id on. -/
def Ty.ocs : (t : Ty) → t.Den → Nat → List LC
  | .int k, x, _ => [.dat (.int k) x]
  | .bool, x, _ => [.dat .bool x]
  | .str, x, _ => [.dat .str x]
  | .sl r, x, _ => [.dat (.sl r) x]
  | .ow _, _, id => [.hdl id]
  | .nil, _, _ => []
  | .cons t r, x, id => t.ocs x.1 id ++ r.ocs x.2 (id + t.size)
  | .alt _ _, _, _ => []

def Ty.oxs : (t : Ty) → t.Den → Nat → List (Nat × KV)
  | .ow r, x, id => [(kX id, .ex r x)]
  | .cons t r, x, id => t.oxs x.1 id ++ r.oxs x.2 (id + t.size)
  | .int _, _, _ => []
  | .bool, _, _ => []
  | .str, _, _ => []
  | .sl _, _, _ => []
  | .nil, _, _ => []
  | .alt _ _, _, _ => []

/-- Data out of cells: the data, the cells behind, what becomes of exclusive slices (frozen where a plain slice is wanted, gone where an exclusive one is). -/
def Ty.pack (len : Bool) : (t : Ty) → List LC → T (t.Den × List LC × List (Nat × KV))
  | .int k, .dat t' x :: l => (T.ofO (castD t' (.int k) x)).bind fun y => .pure (y, l, [])
  | .bool, .dat t' x :: l => (T.ofO (castD t' .bool x)).bind fun y => .pure (y, l, [])
  | .str, .dat t' x :: l => (T.ofO (castD t' .str x)).bind fun y => .pure (y, l, [])
  | .sl r, .dat t' x :: l => (T.ofO (castD t' (.sl r) x)).bind fun y => .pure (y, l, [])
  | .sl _, .nl _ :: l => .pure ([], l, [])
  | .sl r, .hdl e :: l => .get (kX e) fun
    | .ex r' xs => (T.ofO (castP r' r xs)).bind fun y => .pure (y, l, bif len then [] else [(kX e, .fz r y)])
    | .fz r' xs => (T.ofO (castL r' r xs)).bind fun y => .pure (y, l, [])
    | _ => .fail
  | .ow _, .nl _ :: l => .pure ([], l, [])
  | .ow r, .hdl e :: l => .get (kX e) fun
    | .ex r' xs => (T.ofO (castL r' r xs)).bind fun y => .pure (y, l, [(kX e, .gone)])
    | _ => .fail
  | .nil, l => .pure ((), l, [])
  | .cons t r, l => (t.pack len l).bind fun p => (r.pack len p.2.1).bind fun q => .pure ((p.1, q.1), q.2.1, p.2.2 ++ q.2.2)
  | _, _ => .fail

/-- Frozen, not gone. -/
def isFz : KV → Bool
  | .fz _ _ => true
  | _ => false

/-- No exclusive slice that is given away is named twice. -/
def okUps : List (Nat × KV) → Bool
  | [] => true
  | (k, v) :: l => (l.all fun p => !(Nat.beq p.1 k) || (isFz v && isFz p.2)) && okUps l

/-! ### what a function does to data -/
/-- A parameter, or a result: a value in one cell; a struct; a pointer to a struct of its own. -/
inductive PK where
  | val (t : Ty) | agg (r : Ty) | ptr (r : Ty) | mut (r : Ty) | clo (f : Nat) (rs : List Ty)

def consAll : List Ty → Ty
  | [] => .nil
  | t :: l => .cons t (consAll l)

def PK.ty : PK → Ty
  | .val t => t
  | .agg r => r
  | .ptr r => r
  | .mut r => r
  | .clo _ rs => consAll rs

/-- What is handed over is handed back, too. -/
def PK.isPtr : PK → Bool
  | .ptr _ => true
  | .mut _ => true
  | .clo _ _ => true
  | _ => false

def rowOf : List PK → Ty
  | [] => .nil
  | p :: l => .cons p.ty (rowOf l)

def ptrsOf : List PK → List PK
  | [] => []
  | p :: l => if p.isPtr then p :: ptrsOf l else ptrsOf l

def outOf (ps rs : List PK) : Ty := rowOf (rs ++ ptrsOf ps)

structure Mdl where
  ps : List PK
  rs : List PK
  fn : (rowOf ps).Den → Option (outOf ps rs).Den

/-- What a walk takes from the program: the data of its types, the bytes of a slice type's elements; the functions that are called. -/
structure Env where
  ty : Nat → Option Ty
  eb : Nat → Nat
  fns : Nat → Option Mdl
  keep : Nat → Bool
  ov : Nat → Option Ty
  n : Nat
  cmp : Nat → Bool

/-! ### operations -/
variable (E : Env)

def lcConst (t : TypeId) : Value → T LC
  | .int k n => .pure (.dat (.int k) n)
  | .bool b => .pure (.dat .bool b)
  | .string s => .pure (.dat .str s)
  | .slice .none 0 0 => match E.ty t with
    | some (.sl r) => .pure (.nl r)
    | _ => .fail
  | _ => .fail

/-- What an operand holds, of the type t. -/
def opd (t : TypeId) : Operand → T SV
  | .tmp n => .get (kS n) fun
    | .sv s => .pure s
    | _ => .fail
  | .const v => (lcConst E t v).bind fun c => .pure (.cell c)
  | _ => .fail

def svCells : SV → T (List LC)
  | .cell c => .pure [c]
  | .agg cs => .pure cs
  | _ => .fail

def wr (d : Option Tmp) (s : SV) : List (Nat × KV) :=
  match d with
  | some d => [(kS d, .sv s)]
  | none => []

def inB (i : Int) (n : Nat) : Bool := decide (0 ≤ i) && decide (i < (n : Int))
def catFits (a b : Nat) : Bool := Nat.ble (a + b) 9223372036854775807
def inTo (i : Int) (n : Nat) : Bool := decide (0 ≤ i) && decide (i ≤ (n : Int))
def mkFits (l c : Int) (eb : Nat) : Bool := decide (0 ≤ l) && decide (l ≤ c) && decide (c * (eb : Int) ≤ 70368744177664)
def sBit (op : BinOp) (k : IntKind) (x y : Int) : Int :=
  let a := BitVec.ofInt k.bits x
  let b := BitVec.ofInt k.bits y
  k.wrap (match op with | .and => a &&& b | .or => a ||| b | .xor => a ^^^ b | _ => a &&& ~~~b).toNat
def shL (k : IntKind) (x y : Int) : Int := k.wrap (x * 2 ^ min y.toNat k.bits)
def shR (k : IntKind) (x y : Int) : Int := x.fdiv (2 ^ min y.toNat k.bits)
def sEq (x y : ByteArray) : Bool := x.toList == y.toList
def sLt (x y : ByteArray) : Bool := Op.bytesLess x.toList y.toList
def sAt (s : ByteArray) (i : Int) : Int := ((s.data.toList.getD i.toNat 0).toNat : Nat)
def bytesOf (xs : List Int) : ByteArray := ⟨(xs.map fun n => UInt8.ofNat n.toNat).toArray⟩
def ofBytes (s : ByteArray) : List Int := s.data.toList.map fun b => (b.toNat : Int)

def intOp (op : BinOp) (k : IntKind) (x y : Int) : T LC :=
  match op with
  | .add => .pure (.dat (.int k) (k.wrap (x + y)))
  | .sub => .pure (.dat (.int k) (k.wrap (x - y)))
  | .mul => .pure (.dat (.int k) (k.wrap (x * y)))
  | .quo => .chk (!(y == 0)) (.pure (.dat (.int k) (k.wrap (x.tdiv y))))
  | .rem => .chk (!(y == 0)) (.pure (.dat (.int k) (x.tmod y)))
  | .and => .pure (.dat (.int k) (sBit .and k x y))
  | .or => .pure (.dat (.int k) (sBit .or k x y))
  | .xor => .pure (.dat (.int k) (sBit .xor k x y))
  | .andNot => .pure (.dat (.int k) (sBit .andNot k x y))
  | .eql => .pure (.dat .bool (x == y))
  | .neq => .pure (.dat .bool (x != y))
  | .lss => .pure (.dat .bool (decide (x < y)))
  | .leq => .pure (.dat .bool (decide (x ≤ y)))
  | .gtr => .pure (.dat .bool (decide (x > y)))
  | .geq => .pure (.dat .bool (decide (x ≥ y)))
  | .shl => .fail
  | .shr => .fail

def strOp (op : BinOp) (x y : ByteArray) : T LC :=
  match op with
  | .add => .chk (catFits x.size y.size) (.pure (.dat .str (x ++ y)))
  | .eql => .pure (.dat .bool (sEq x y))
  | .neq => .pure (.dat .bool (!sEq x y))
  | .lss => .pure (.dat .bool (sLt x y))
  | .leq => .pure (.dat .bool (sLt x y || sEq x y))
  | .gtr => .pure (.dat .bool (!(sLt x y || sEq x y)))
  | .geq => .pure (.dat .bool (!sLt x y))
  | _ => .fail

def lBin (op : BinOp) (t : TypeId) (a b : SV) : T LC :=
  match a, b with
  | .cell (.dat (.int k) x), .cell (.dat (.int k') y) =>
    match op with
    | .shl => .chk (decide (0 ≤ (y : Int))) (.pure (.dat (.int k) (shL k x y)))
    | .shr => .chk (decide (0 ≤ (y : Int))) (.pure (.dat (.int k) (shR k x y)))
    | op => bif kBeq k k' then intOp op k x y else .fail
  | .cell (.dat .str x), .cell (.dat .str y) => strOp op x y
  | .cell (.dat .bool x), .cell (.dat .bool y) => match op, E.ty t with
    | .eql, some .bool => .pure (.dat .bool ((x : Bool) == y))
    | .neq, some .bool => .pure (.dat .bool (!((x : Bool) == y)))
    | _, _ => .fail
  | .agg xs, .agg ys => match E.ty t with
    | some r => .chk (E.cmp t) <| (r.pack true xs).bind fun p => (r.pack true ys).bind fun q =>
      match op, p.2, q.2 with
      | .eql, ([], []), ([], []) => .pure (.dat .bool (r.eqB p.1 q.1))
      | .neq, ([], []), ([], []) => .pure (.dat .bool (!r.eqB p.1 q.1))
      | _, _, _ => .fail
    | none => .fail
  | _, _ => .fail

/-- Where a field lies, and its type. -/
def fieldTy : Ty → Nat → Option (Nat × Ty)
  | .cons t _, 0 => some (0, t)
  | .cons t r, f + 1 => (fieldTy r f).map fun p => (t.size + p.1, p.2)
  | _, _ => none

def splice (cs : List LC) (off : Nat) (new : List LC) : List LC := cs.take off ++ new ++ cs.drop (off + new.length)

/-- What a pointer points at: the cells of the whole of it, and the place in them. -/
def cellsAt : SV → T (List LC × Nat)
  | .ptr b off => .get (kB b) fun
    | .box cs => .pure (cs, off)
    | _ => .fail
  | .elP r x off => .pure (r.lcs x, off)
  | .elX e i off => .get (kX e) fun
    | .ex r xs => .pure (r.lcs (xi r xs i), off)
    | _ => .fail
  | _ => .fail

def lLoad (t : TypeId) (a : SV) : T SV :=
  match E.ty t with
  | none => .fail
  | some r => (cellsAt a).bind fun p =>
    bif r.isAgg then .chk (decide (p.2 + r.size ≤ p.1.length)) (.pure (.agg ((p.1.drop p.2).take r.size)))
    else match p.1[p.2]? with
      | some c => .pure (.cell c)
      | none => .fail

def lStore (t : TypeId) (a v : SV) : T (List (Nat × KV)) :=
  match E.ty t with
  | none => .fail
  | some r => (svCells v).bind fun new => .chk (Nat.beq new.length r.size) <|
    match a with
    | .ptr b off => .get (kB b) fun
      | .box cs => .chk (decide (off + new.length ≤ cs.length)) (.pure [(kB b, .box (splice cs off new))])
      | _ => .fail
    | .elX e i off => .get (kX e) fun
      | .ex q xs => .chk (decide (off + new.length ≤ q.size)) <| (q.pack false (splice (q.lcs (xi q xs i)) off new)).bind fun p =>
          match p.2.1 with
          | [] => .chk (okUps (p.2.2 ++ [(kX e, .ex q (xs.set i.toNat p.1))])) (.pure (p.2.2 ++ [(kX e, .ex q (xs.set i.toNat p.1))]))
          | _ => .fail
      | _ => .fail
    | _ => .fail

/-- The elements of a slice that is only read. -/
def elems : SV → T ((r : Ty) × List r.Den)
  | .cell (.dat (.sl r) xs) => .pure ⟨r, xs⟩
  | .cell (.nl r) => .pure ⟨r, []⟩
  | .cell (.hdl e) => .get (kX e) fun
    | .ex r xs => .pure ⟨r, xs⟩
    | .fz r xs => .pure ⟨r, xs⟩
    | _ => .fail
  | _ => .fail

/-- A value in 0 .. n. -/
def lBound (n : Nat) : Option SV → Nat → T Nat
  | none, d => .pure d
  | some (.cell (.dat (.int _) i)), _ => .chk (inTo i n) (.pure (i : Int).toNat)
  | _, _ => .fail

def optOpd (t : TypeId) : Option Operand → T (Option SV)
  | none => .pure none
  | some o => (opd E t o).bind fun s => .pure (some s)

/-- A number that was not used before. -/
def newX (d : Nat) (ws : List (Nat × KV)) : T (List (Nat × KV)) :=
  .chk (Nat.blt d 1000000000) <| .get (kX d) fun
    | .none => .pure ws
    | _ => .fail

def newB (d : Nat) (ws : List (Nat × KV)) : T (List (Nat × KV)) :=
  .chk (Nat.blt d 1000000000) <| .get (kB d) fun
    | .none => .pure ws
    | _ => .fail

/-- How many cells an element of a slice type has. -/
def szE (t : TypeId) : Nat :=
  match E.ty t with
  | some (.sl q) => q.size
  | _ => 0

def lSlice (t : TypeId) (d : Option Tmp) (x : SV) (lo hi : Option SV) : T (List (Nat × KV)) :=
  match x with
  | .cell (.dat .str s) => match E.ty t with
    | some .str => (lBound s.size hi s.size).bind fun h => (lBound h lo 0).bind fun l => .pure (wr d (.cell (.dat .str (s.extract l h))))
    | _ => .fail
  | .cell (.dat (.sl r) xs) => .chk (Nat.beq (szE E t) r.size && Nat.ble 1 r.size) <| (lBound xs.length hi xs.length).bind fun h => (lBound h lo 0).bind fun l =>
    .pure (wr d (.cell (.dat (.sl r) ((xs.take h).drop l))))
  | .cell (.nl r) => .chk (Nat.ble 1 (szE E t)) <| (lBound 0 hi 0).bind fun h => (lBound h lo 0).bind fun _ => .pure (wr d (.cell (.nl r)))
  | .cell (.hdl e) => match d with
    | none => .fail
    | some d => .get (kX e) fun
      | .ex r xs => .chk (Nat.beq (szE E t) r.size && Nat.ble 1 r.size && r.plain) <| (lBound xs.length hi xs.length).bind fun h => (lBound h lo 0).bind fun l =>
        bif E.keep d then newX d ([(kX e, .gone), (kX d, .ex r ((xs.take h).drop l)), (kS d, .sv (.cell (.hdl d)))])
        else .pure [(kX e, .fz r xs), (kS d, .sv (.cell (.dat (.sl r) ((xs.take h).drop l))))]
      | .fz r xs => .chk (Nat.beq (szE E t) r.size && Nat.ble 1 r.size) <| (lBound xs.length hi xs.length).bind fun h => (lBound h lo 0).bind fun l =>
        .pure [(kS d, .sv (.cell (.dat (.sl r) ((xs.take h).drop l))))]
      | _ => .fail
  | _ => .fail

def appFits (eb : Nat) (n : Nat) : Bool := Nat.ble (n * eb) 70368744177664

def lAppend (t : TypeId) (d : Option Tmp) (s x : SV) : T (List (Nat × KV)) :=
  match d with
  | some d => (elems x).bind fun ys => .chk (Nat.beq (szE E t) ys.1.size && Nat.ble 1 ys.1.size && ys.1.plain) <|
    match s with
    | .cell (.nl _) => .chk (appFits (E.eb t) ([] ++ ys.2).length) <|
      newX d [(kX d, .ex ys.1 ([] ++ ys.2)), (kS d, .sv (.cell (.hdl d)))]
    | .cell (.hdl e) => .get (kX e) fun
      | .ex r xs => (T.ofO (castL ys.1 r ys.2)).bind fun ys' => .chk (appFits (E.eb t) (xs ++ ys').length) <|
        newX d [(kX e, .gone), (kX d, .ex r (xs ++ ys')), (kS d, .sv (.cell (.hdl d)))]
      | _ => .fail
    | _ => .fail
  | _ => .fail

/-- The cells of parts laid over others. -/
def fillT (t : Nat → Option (Nat × Ty × TypeId)) : List LC → List (Nat × Operand) → T (List LC)
  | cs, [] => .pure cs
  | cs, (i, x) :: l => match t i with
    | none => .fail
    | some (off, r, ft) => (opd E ft x).bind fun s => (svCells s).bind fun new => .chk (Nat.beq new.length r.size && decide (off + new.length ≤ cs.length)) (fillT t (splice cs off new) l)

def zcsN (r : Ty) : Nat → List LC
  | 0 => []
  | n + 1 => r.zcs ++ zcsN r n

def packN (r : Ty) : Nat → List LC → T (List r.Den × List LC × List (Nat × KV))
  | 0, l => .pure ([], l, [])
  | n + 1, l => (r.pack false l).bind fun p => (packN r n p.2.1).bind fun q => .pure (p.1 :: q.1, q.2.1, p.2.2 ++ q.2.2)

/-- What is written anew behind a call: a box; the exclusive slices of a value; the boxes of a closure. -/
inductive Tgt where
  | box (b : Nat) | hds (l : List Nat) | boxes (l : List Nat)

/-- Data of what is handed over to be written: the data, the cells behind, what is gone meanwhile, where it is. -/
def Ty.packM : (t : Ty) → List LC → T (t.Den × List LC × List (Nat × KV) × List Nat)
  | .ow r, .hdl e :: l => .get (kX e) fun
    | .ex r' xs => (T.ofO (castL r' r xs)).bind fun y => .pure (y, l, [(kX e, .gone)], [e])
    | _ => .fail
  | .ow _, _ => .fail
  | .cons t r, l => (t.packM l).bind fun p => (r.packM p.2.1).bind fun q => .pure ((p.1, q.1), q.2.1, p.2.2.1 ++ q.2.2.1, p.2.2.2 ++ q.2.2.2)
  | .nil, l => .pure ((), l, [], [])
  | t, l => (t.pack false l).bind fun p => .pure (p.1, p.2.1, p.2.2, [])

/-- The structs behind a closure's pointers. -/
def packBoxes : (rs : List Ty) → List Nat → T ((consAll rs).Den × List (Nat × KV))
  | [], [] => .pure ((), [])
  | r :: rs, b :: bs => .get (kB b) fun
    | .box cs => .chk (Nat.beq cs.length r.size) <| (r.pack false cs).bind fun p => (packBoxes rs bs).bind fun q => .pure ((p.1, q.1), (kB b, .gone) :: p.2.2 ++ q.2)
    | _ => .fail
  | _, _ => .fail

/-- A struct where a struct is wanted. -/
def aggOk (s : SV) (r : Ty) : Bool := match s with | .agg _ => r.isAgg | _ => !r.isAgg

/-- The data of what is handed to a function. -/
def packArgs : (ps : List PK) → List (T SV) → T ((rowOf ps).Den × List (Nat × KV) × List Tgt)
  | [], [] => .pure ((), [], [])
  | .val t :: ps, o :: l => o.bind fun s => match s with
    | .cell c => (t.pack false [c]).bind fun p => (packArgs ps l).bind fun q => .pure ((p.1, q.1), p.2.2 ++ q.2.1, q.2.2)
    | _ => .fail
  | .agg r :: ps, o :: l => o.bind fun s => match s with
    | .agg cs => (r.pack false cs).bind fun p => match p.2.1 with
      | [] => (packArgs ps l).bind fun q => .pure ((p.1, q.1), p.2.2 ++ q.2.1, q.2.2)
      | _ => .fail
    | _ => .fail
  | .ptr r :: ps, o :: l => o.bind fun s => match s with
    | .ptr b off => .get (kB b) fun
      | .box cs => .chk (Nat.beq cs.length r.size && Nat.beq off 0) <| (r.pack false cs).bind fun p =>
        (packArgs ps l).bind fun q => .pure ((p.1, q.1), (kB b, .gone) :: p.2.2 ++ q.2.1, .box b :: q.2.2)
      | _ => .fail
    | _ => .fail
  | .mut r :: ps, o :: l => o.bind fun s => .chk (aggOk s r) <| (svCells s).bind fun cs => .chk (Nat.beq cs.length r.size) <| (r.packM cs).bind fun p =>
    (packArgs ps l).bind fun q => .pure ((p.1, q.1), p.2.2.1 ++ q.2.1, .hds p.2.2.2 :: q.2.2)
  | .clo f rs :: ps, o :: l => o.bind fun s => match s with
    | .clo g bs => .chk (Nat.beq f g) <| (packBoxes rs bs).bind fun p =>
      (packArgs ps l).bind fun q => .pure ((p.1, q.1), p.2 ++ q.2.1, .boxes bs :: q.2.2)
    | _ => .fail
  | _, _ => .fail

def callId (d j : Nat) : Nat := (d + 1) * 10000 + j * 100

/-- Results of a call as values, with what is made. -/
def unRes : (d j : Nat) → (rs : List PK) → (tl : List PK) → (rowOf (rs ++ tl)).Den → List SV × List (Nat × KV) × (rowOf tl).Den
  | _, _, [], _, x => ([], [], x)
  | d, j, .val t :: rs, tl, x =>
    let q := unRes d (j + 1) rs tl x.2
    ((match t.ocs x.1 (callId d j) with | [c] => SV.cell c | _ => .undef) :: q.1, t.oxs x.1 (callId d j) ++ q.2.1, q.2.2)
  | d, j, .ptr r :: rs, tl, x =>
    let q := unRes d (j + 1) rs tl x.2
    (.ptr (callId d j) 0 :: q.1, (kB (callId d j), .box (r.ocs x.1 (callId d j))) :: r.oxs x.1 (callId d j) ++ q.2.1, q.2.2)
  | d, j, p :: rs, tl, x =>
    let q := unRes d (j + 1) rs tl x.2
    (.agg (p.ty.ocs x.1 (callId d j)) :: q.1, p.ty.oxs x.1 (callId d j) ++ q.2.1, q.2.2)

/-- The exclusive cells of data, for handles that stay. -/
def Ty.oexs : (t : Ty) → t.Den → List Nat → List (Nat × KV) × List Nat
  | .ow r, x, e :: l => ([(kX e, .ex r x)], l)
  | .cons t r, x, l => let p := t.oexs x.1 l; let q := r.oexs x.2 p.2; (p.1 ++ q.1, q.2)
  | _, _, l => ([], l)

def unBoxes : (id : Nat) → (rs : List Ty) → List Nat → (consAll rs).Den → List (Nat × KV)
  | id, r :: rs, b :: bs, x => (kB b, .box (r.ocs x.1 id)) :: r.oxs x.1 id ++ unBoxes (id + r.size) rs bs x.2
  | _, _, _, _ => []

/-- What was handed over to be written, behind the call. -/
def unPtrs : (d j : Nat) → (ps : List PK) → List Tgt → (rowOf ps).Den → List (Nat × KV)
  | d, j, .ptr r :: ps, .box b :: bs, x => (kB b, .box (r.ocs x.1 (callId d j))) :: r.oxs x.1 (callId d j) ++ unPtrs d (j + 1) ps bs x.2
  | d, j, .mut r :: ps, .hds l :: bs, x => (r.oexs x.1 l).1 ++ unPtrs d (j + 1) ps bs x.2
  | d, j, .clo _ rs :: ps, .boxes l :: bs, x => unBoxes (callId d j) rs l x.1 ++ unPtrs d (j + 1) ps bs x.2
  | _, _, _, _, _ => []

/-- The keys of slices that were handed over to be written. -/
def mutKeys : List Tgt → List Nat
  | .hds l :: bs => l.map kX ++ mutKeys bs
  | _ :: bs => mutKeys bs
  | [] => []

def memK (n : Nat) : List Nat → Bool
  | [] => false
  | m :: l => Nat.beq n m || memK n l

def isGone : KV → Bool
  | .gone => true
  | _ => false

/-- What becomes of what is handed over while the call goes on: what is lent stays. -/
def upsOf (lend : Bool) (ms : List Nat) (ups : List (Nat × KV)) : List (Nat × KV) :=
  ups.filter fun p => !memK p.1 ms && (!lend || isGone p.2)

/-- Keys that differ. -/
def nodupK : List Nat → Bool
  | [] => true
  | k :: l => !memK k l && nodupK l

/-- The numbers of what is new among it. -/
def newOf : (d j : Nat) → (ps : List PK) → List Tgt → (rowOf ps).Den → List (Nat × KV)
  | d, j, .ptr r :: ps, .box _ :: bs, x => r.oxs x.1 (callId d j) ++ newOf d (j + 1) ps bs x.2
  | d, j, .mut _ :: ps, .hds _ :: bs, x => newOf d (j + 1) ps bs x.2
  | d, j, .clo _ rs :: ps, .boxes _ :: bs, x => (consAll rs).oxs x.1 (callId d j) ++ newOf d (j + 1) ps bs x.2
  | _, _, _, _, _ => []

/-- None of these keys was used before. -/
def allNew {α : Type} : List Nat → T α → T α
  | [], t => t
  | k :: l, t => .chk (Nat.blt k 3000000000) <| .get k fun
    | .none => allNew l t
    | _ => .fail

def opdsT : List Operand → List TypeId → List (T SV)
  | [], [] => []
  | o :: l, t :: ts => opd E t o :: opdsT l ts
  | _, _ => [.fail]

def lCall (d : Option Tmp) (f : FuncId) (args : List (T SV)) : T (List (Nat × KV)) :=
  match d, E.fns f with
  | some d, some m => (packArgs m.ps args).bind fun a => .chk (okUps a.2.1) <|
    .ask (outOf m.ps m.rs) (m.fn a.1) fun y =>
      let q := unRes d 0 m.rs (ptrsOf m.ps) y
      let ks := (q.2.1 ++ newOf d m.rs.length (ptrsOf m.ps) a.2.2 q.2.2).map (·.1)
      .chk (nodupK ks) <| allNew ks <| .pure (upsOf (outOf m.ps m.rs).noSl (mutKeys a.2.2) a.2.1 ++ q.2.1 ++ unPtrs d m.rs.length (ptrsOf m.ps) a.2.2 q.2.2 ++
        [(kS d, match q.1 with | [s] => .sv s | l => .tup l)])
  | _, _ => .fail

def lLen (t : TypeId) (x : SV) : T LC :=
  match x with
  | .cell (.dat .str s) => match E.ty t with
    | some .str => .pure (.dat (.int .i64) (s.size : Int))
    | _ => .fail
  | x => match E.ty t with
    | some (.sl _) => (elems x).bind fun ys => .pure (.dat (.int .i64) (ys.2.length : Int))
    | _ => .fail

def foldInt (f : Int → Int → Int) : List SV → T Int
  | [] => .fail
  | [.cell (.dat (.int .i64) x)] => .pure x
  | .cell (.dat (.int .i64) x) :: l => match l with
    | .cell (.dat (.int .i64) y) :: l => foldInt f (.cell (.dat (.int .i64) (f x y)) :: l)
    | _ => .fail
  | _ => .fail
  termination_by l => l.length

def opds (t : TypeId) : List Operand → T (List SV)
  | [] => .pure []
  | o :: l => (opd E t o).bind fun s => (opds t l).bind fun q => .pure (s :: q)

/-- The row of the elements of a slice that is made: as its type has it, or as it is said for this place. -/
def rowAt (d : Option Tmp) (t : TypeId) : Option Ty :=
  match d.bind E.ov with
  | some r => match E.ty t with
    | some (.sl q) => bif r.beqP q then some r else none
    | _ => none
  | none => match E.ty t with
    | some (.sl q) => some q
    | _ => none

def boxNos : List SV → T (List Nat)
  | [] => .pure []
  | .ptr b 0 :: l => (boxNos l).bind fun q => .pure (b :: q)
  | _ => .fail

/-- A pointer that can be used now. -/
def usePtr : SV → T SV
  | .ptr b off => .pure (.ptr b off)
  | .elP r y off => .pure (.elP r y off)
  | .elX e i off => .get (kX e) fun
    | .ex _ _ => .pure (.elX e i off)
    | _ => .fail
  | _ => .fail

/-- A pointer to a field. -/
def svAdd (k : Nat) : SV → SV
  | .ptr b off => .ptr b (off + k)
  | .elP r y off => .elP r y (off + k)
  | .elX e i off => .elX e i (off + k)
  | s => s

def lMove (o : Oper) (x : Operand) : T (List (Nat × KV)) :=
  match x with
    | .tmp n => .get (kS n) fun
      | .sv s => .pure (wr o.dst s)
      | .tup l => match o.dst with
        | some d => .pure [(kS d, .tup l)]
        | none => .fail
      | _ => .fail
    | .const (.pointer .none) => match o.dst with
      | some d => .pure [(kS d, .none)]
      | none => .fail
    | x => (opd E o.type x).bind fun s => .pure (wr o.dst s)

/-- One operation: what it writes. -/
def lop (o : Oper) : T (List (Nat × KV)) :=
  match o.op with
  | .move x => lMove E o x
  | .assign x => lMove E o x
  | .pick c a b => (opd E 0 c).bind fun c => match c with
    | .cell (.dat .bool c) => .br c ((opd E o.type a).bind fun s => .pure (wr o.dst s)) ((opd E o.type b).bind fun s => .pure (wr o.dst s))
    | _ => .fail
  | .alloc t => match o.dst, E.ty t with
    | some d, some r => newB d [(kB d, .box r.zcs), (kS d, .sv (.ptr d 0))]
    | _, _ => .fail
  | .box t x => match o.dst, E.ty t with
    | some d, some r => (opd E t x).bind fun s => (svCells s).bind fun cs => .chk (Nat.beq cs.length r.size) <|
      newB d [(kB d, .box cs), (kS d, .sv (.ptr d 0))]
    | _, _ => .fail
  | .build t parts => match E.ty t with
    | some r => .chk r.isAgg <| (fillT E (fun i => (fieldTy r i).map fun p => (p.1, p.2, 0)) r.zcs parts.toList).bind fun cs => .pure (wr o.dst (.agg cs))
    | none => .fail
  | .buildSlice t n parts => match o.dst, rowAt E o.dst t with
    | some d, some r => (fillT E (fun i => some (i * r.size, r, 0)) (zcsN r n) parts.toList).bind fun cs =>
      (packN r n cs).bind fun p => match p.2.1 with
        | [] => .chk (r.plain && okUps p.2.2 && Nat.ble (n * r.size) 16777216) (newX d (p.2.2 ++ [(kX d, .ex r p.1), (kS d, .sv (.cell (.hdl d)))]))
        | _ => .fail
    | _, _ => .fail
  | .load t a => (opd E 0 a).bind fun a => (lLoad E t a).bind fun s => .pure (wr o.dst s)
  | .store t a x => match o.dst with
    | none => (opd E 0 a).bind fun a => (opd E t x).bind fun x => lStore E t a x
    | some _ => .fail
  | .nilCheck x => (opd E 0 x).bind fun x => (usePtr x).bind fun x => .pure (wr o.dst x)
  | .binOp op t x y yt => (opd E t x).bind fun x => (opd E yt y).bind fun y => (lBin E op t x y).bind fun c => .pure (wr o.dst (.cell c))
  | .unOp op _ x => (opd E 0 x).bind fun x => match op, x with
    | .not, .cell (.dat .bool b) => .pure (wr o.dst (.cell (.dat .bool (!b))))
    | .neg, .cell (.dat (.int k) n) => .pure (wr o.dst (.cell (.dat (.int k) (k.wrap (0 - n)))))
    | _, _ => .fail
  | .convert s t x => (opd E s x).bind fun x => match E.ty s, E.ty t, x with
    | some (.int _), some (.int k), .cell (.dat (.int _) n) => .pure (wr o.dst (.cell (.dat (.int k) (k.wrap n))))
    | some .str, some .str, .cell (.dat .str n) => .pure (wr o.dst (.cell (.dat .str n)))
    | some (.sl (.int .u8)), some .str, x => (elems x).bind fun ys => (T.ofO (castL ys.1 (.int .u8) ys.2)).bind fun ys => .pure (wr o.dst (.cell (.dat .str (bytesOf ys))))
    | some .str, some (.sl (.int .u8)), .cell (.dat .str n) => match o.dst with
      | some d => newX d [(kX d, .ex (.int .u8) (ofBytes n)), (kS d, .sv (.cell (.hdl d)))]
      | none => .fail
    | _, _, _ => .fail
  | .makeSlice t l c => match o.dst, rowAt E o.dst t with
    | some d, some r => (opd E 0 l).bind fun l => (opd E 0 c).bind fun c => match l, c with
      | .cell (.dat (.int .i64) l), .cell (.dat (.int .i64) c) =>
        .chk (mkFits l c (E.eb t)) <|
          .chk r.plain (newX d [(kX d, .ex r (List.replicate (l : Int).toNat r.zero)), (kS d, .sv (.cell (.hdl d)))])
      | _, _ => .fail
    | _, _ => .fail
  | .slice t x lo hi mx => match mx with
    | some _ => .fail
    | none => (opd E t x).bind fun x => (optOpd E 0 lo).bind fun lo => (optOpd E 0 hi).bind fun hi => lSlice E t o.dst x lo hi
  | .fieldAddr t x f => (opd E 0 x).bind fun x => (usePtr x).bind fun x => (T.ofO ((E.ty t).bind (fieldTy · f))).bind fun k => .pure (wr o.dst (svAdd k.1 x))
  | .indexAddr t x i => (opd E t x).bind fun x => (opd E 0 i).bind fun i => match i with
    | .cell (.dat (.int _) i) => match x with
      | .cell (.dat (.sl r) xs) => .chk (Nat.ble 1 r.size && Nat.beq (szE E t) r.size) (.chk (inB i xs.length) (.pure (wr o.dst (.elP r (xi r xs i) 0))))
      | .cell (.hdl e) => .get (kX e) fun
        | .ex r xs => .chk (Nat.ble 1 r.size && Nat.beq (szE E t) r.size) (.chk (inB i xs.length) (.pure (wr o.dst (.elX e i 0))))
        | .fz r xs => .chk (Nat.ble 1 r.size && Nat.beq (szE E t) r.size) (.chk (inB i xs.length) (.pure (wr o.dst (.elP r (xi r xs i) 0))))
        | _ => .fail
      | _ => .fail
    | _ => .fail
  | .index t x i => (opd E t x).bind fun x => (opd E 0 i).bind fun i => match x, i with
    | .cell (.dat .str s), .cell (.dat (.int _) i) => match E.ty t with
      | some .str => .chk (inB i s.size) (.pure (wr o.dst (.cell (.dat (.int .u8) (sAt s i)))))
      | _ => .fail
    | _, _ => .fail
  | .makeFunc (.func f) first captured => match first.toList with
    | [] => (opds E 0 captured.toList).bind fun l => (boxNos l).bind fun bs => .pure (wr o.dst (.clo f bs))
    | _ => .fail
  | .extract (.tmp n) i => .get (kS n) fun
    | .tup l => match l[i]? with
      | some s => .pure (wr o.dst s)
      | none => .fail
    | _ => .fail
  | .call c => match c.callee with
    | .value (.func f) => lCall E o.dst f (opdsT E c.args.toList c.argTypes.toList)
    | .value (.tmp n) => .get (kS n) fun
      | .sv (.clo f bs) => lCall E o.dst f (opdsT E c.args.toList c.argTypes.toList ++ bs.map fun b => .pure (.ptr b 0))
      | _ => .fail
    | .builtin .len => match c.args.toList, c.argTypes.toList with
      | [x], [t] => (opd E t x).bind fun x => (lLen E t x).bind fun c => .pure (wr o.dst (.cell c))
      | _, _ => .fail
    | .builtin .append => match c.args.toList, c.argTypes.toList with
      | [s, x], [t, t'] => (opd E t s).bind fun s => (opd E t' x).bind fun x => .chk (Nat.beq t t') (lAppend E t o.dst s x)
      | _, _ => .fail
    | .builtin .max => (opds E 0 c.args.toList).bind fun l => (foldInt max l).bind fun x => .pure (wr o.dst (.cell (.dat (.int .i64) x)))
    | .builtin .min => (opds E 0 c.args.toList).bind fun l => (foldInt min l).bind fun x => .pure (wr o.dst (.cell (.dat (.int .i64) x)))
    | _ => .fail
  | _ => .fail

/-- One operation in its region: a guard decides whether it is done. -/
def lopG (ops : Array Oper) (o : Oper) : T (List (Nat × KV)) :=
  .chk (match o.dst with | some d => Nat.blt d E.n | none => true) <|
  match o.guard with
  | none => lop E o
  | some (j, want) => match (ops[j]?).bind (·.dst) with
    | some d => .grd (kS d) want (lop E o) (.pure (wr o.dst .undef))
    | none => .fail

/-! ### regions -/
/-- What each operation wrote and read. -/
abbrev Log := List (List Nat × List Nat)

def evalOps {R : Type} (ops : Array Oper) : List Oper → Sg → Log → (Sg → Log → Option R) → Option R
  | [], σ, lg, k => k σ lg
  | o :: l, σ, lg, k => (lopG E ops o).run σ [] fun σ ws rs => evalOps ops l (puts σ ws) ((ws.map (·.1), rs) :: lg) k

def memN (n : Nat) : List Nat → Bool
  | [] => false
  | m :: l => Nat.beq n m || memN n l

def meets : List Nat → List Nat → Bool
  | [], _ => false
  | n :: l, m => memN n m || meets l m

def bit (m j : Nat) : Bool := Nat.beq (Nat.land (Nat.shiftRight m j) 1) 1

/-- The operations on which one hangs, directly and by way of others, as bits. -/
def ancsOf (acc : List Nat) : List Edge → Nat → Nat
  | [], s => s
  | e :: l, s => ancsOf acc l (bif Region.binds .any e then Nat.lor s (Nat.lor (Nat.shiftLeft 1 e.on) (acc.getD e.on 0)) else s)

def ancs : List Oper → List Nat → List Nat
  | [], acc => acc
  | o :: l, acc => ancs l (acc ++ [ancsOf acc o.after.toList 0])

def back : Nat → List Oper → Bool
  | _, [] => true
  | i, o :: l => (o.after.toList.all fun e => !Region.binds .any e || Nat.blt e.on i) && back (i + 1) l

/-- Two operations whose order is open leave each other alone. -/
def apart1 (i : Nat) (wi ri : List Nat) (lg : Log) (an : List Nat) : Nat → Bool
  | 0 => true
  | j + 1 => (match lg[j]?, an[i]? with
    | some (wj, rj), some a => bit a j || !(meets wi wj || meets wi rj || meets ri wj)
    | _, _ => false) && apart1 i wi ri lg an j

def apartAll (lg : Log) (an : List Nat) : Nat → Bool
  | 0 => true
  | i + 1 => (match lg[i]? with
    | some (w, r) => apart1 i w r lg an i
    | none => false) && apartAll lg an i

def okLog (ops : List Oper) (lg : Log) : Bool := back 0 ops && apartAll lg (ancs ops []) ops.length

def evalRegion {R : Type} (ops : Array Oper) (draw : Bool) (σ : Sg) (k : Sg → Option R) : Option R :=
  evalOps E ops ops.toList σ [] fun σ lg => bif draw then (bif okLog ops.toList lg.reverse then k σ else none) else k σ

/-! ### code -/
inductive Ex where
  | normal | exit (id : Nat) | ret

/-- What is known of one key. -/
inductive Sh where
  | ptr (b off : Nat) | val (t : Ty) | agg (r : Ty) | box (r : Ty) | clo (f : Nat) (bs : List Nat) | mut (r : Ty)

def Sh.ty : Sh → Ty
  | .ptr _ _ => .nil
  | .clo _ _ => .nil
  | .val t => t
  | .agg r => r
  | .box r => r
  | .mut r => r

abbrev Pat := List (Nat × Sh)

def Pat.ty : Pat → Ty
  | [] => .nil
  | p :: l => .cons p.2.ty (Pat.ty l)

/-- Where what a function is handed lies; where what a loop begins with lies. -/
def homeId (n : Nat) : Nat := 1000000000 + n * 100
def loopId (n : Nat) : Nat := 2000000000 + n * 100

def inj : (p : Pat) → (Pat.ty p).Den → Sg → Sg
  | [], _, σ => σ
  | (n, .ptr b off) :: l, x, σ => inj l x.2 (put σ (kS n) (.sv (.ptr b off)))
  | (n, .clo f bs) :: l, x, σ => inj l x.2 (put σ (kS n) (.sv (.clo f bs)))
  | (n, .val t) :: l, x, σ => inj l x.2 (puts σ ((kS n, match t.ocs x.1 (loopId n) with | [c] => .sv (.cell c) | _ => .none) :: t.oxs x.1 (loopId n)))
  | (n, .agg r) :: l, x, σ => inj l x.2 (puts σ ((kS n, .sv (.agg (r.ocs x.1 (loopId n)))) :: r.oxs x.1 (loopId n)))
  | (n, .mut r) :: l, x, σ => inj l x.2 (puts σ ((kS n, bif r.isAgg then .sv (.agg (r.ocs x.1 (homeId n))) else match r.ocs x.1 (homeId n) with | [c] => .sv (.cell c) | _ => .none) :: r.oxs x.1 (homeId n)))
  | (n, .box r) :: l, x, σ => inj l x.2 (puts σ ((kB n, .box (r.ocs x.1 (loopId n + 50))) :: r.oxs x.1 (loopId n + 50)))

/-- Data of what was handed over to be written: its slices are those with the numbers from id on. -/
def Ty.packH : (t : Ty) → Nat → List LC → T (t.Den × List LC × List (Nat × KV))
  | .ow r, id, .hdl e :: l => .chk (Nat.beq e id) <| .get (kX e) fun
    | .ex r' xs => (T.ofO (castL r' r xs)).bind fun y => .pure (y, l, [(kX e, .gone)])
    | _ => .fail
  | .ow _, _, _ => .fail
  | .cons t r, id, l => (t.packH id l).bind fun p => (r.packH (id + t.size) p.2.1).bind fun q => .pure ((p.1, q.1), q.2.1, p.2.2 ++ q.2.2)
  | .nil, _, l => .pure ((), l, [])
  | t, _, l => t.pack false l

def ext : (p : Pat) → T ((Pat.ty p).Den × List (Nat × KV))
  | [] => .pure ((), [])
  | (n, .ptr b off) :: l => .get (kS n) fun
    | .sv (.ptr b' off') => .chk (Nat.beq b b' && Nat.beq off off') ((ext l).bind fun q => .pure (((), q.1), q.2))
    | _ => .fail
  | (n, .clo f bs) :: l => .get (kS n) fun
    | .sv (.clo f' bs') => .chk (Nat.beq f f' && bs == bs') ((ext l).bind fun q => .pure (((), q.1), q.2))
    | _ => .fail
  | (n, .val t) :: l => .get (kS n) fun
    | .sv (.cell c) => (t.pack false [c]).bind fun p => (ext l).bind fun q => .pure ((p.1, q.1), p.2.2 ++ q.2)
    | _ => .fail
  | (n, .agg r) :: l => .get (kS n) fun
    | .sv (.agg cs) => (r.pack false cs).bind fun p => match p.2.1 with
      | [] => (ext l).bind fun q => .pure ((p.1, q.1), p.2.2 ++ q.2)
      | _ => .fail
    | _ => .fail
  | (n, .mut r) :: l => .get (kS n) fun
    | .sv s => .chk (aggOk s r) <| (svCells s).bind fun cs => (r.packH (homeId n) cs).bind fun p => match p.2.1 with
      | [] => (ext l).bind fun q => .pure ((p.1, q.1), p.2.2 ++ q.2)
      | _ => .fail
    | _ => .fail
  | (n, .box r) :: l => .get (kB n) fun
    | .box cs => (r.pack false cs).bind fun p => match p.2.1 with
      | [] => (ext l).bind fun q => .pure ((p.1, q.1), (kB n, .gone) :: p.2.2 ++ q.2)
      | _ => .fail
    | _ => .fail

def Ty.okeys : Ty → Nat → List Nat
  | .ow _, id => [kX id]
  | .cons t r, id => t.okeys id ++ r.okeys (id + t.size)
  | _, _ => []

/-- The rows of exclusive slices are plain; no alternative. -/
def Ty.owPlain : Ty → Bool
  | .ow r => r.plain
  | .cons t r => t.owPlain && r.owPlain
  | .alt _ _ => false
  | _ => true

/-- What a state made of a pattern's data has keys for. -/
def Pat.keys : Pat → List Nat
  | [] => []
  | (n, .ptr _ _) :: l => kS n :: Pat.keys l
  | (n, .clo _ _) :: l => kS n :: Pat.keys l
  | (n, .val t) :: l => kS n :: t.okeys (loopId n) ++ Pat.keys l
  | (n, .agg r) :: l => kS n :: r.okeys (loopId n) ++ Pat.keys l
  | (n, .mut r) :: l => kS n :: r.okeys (homeId n) ++ Pat.keys l
  | (n, .box r) :: l => kB n :: r.okeys (loopId n + 50) ++ Pat.keys l

def Pat.boxes : Pat → List Nat
  | [] => []
  | (n, .box _) :: l => n :: Pat.boxes l
  | _ :: l => Pat.boxes l

def Pat.okIn (bs : List Nat) : Pat → Bool
  | [] => true
  | (_, .ptr b _) :: l => memK b bs && Pat.okIn bs l
  | (_, .clo _ cs) :: l => cs.all (fun b => memK b bs) && Pat.okIn bs l
  | (_, .val t) :: l => Nat.beq t.size 1 && !t.isAgg && t.owPlain && Pat.okIn bs l
  | (_, .agg r) :: l => r.owPlain && Pat.okIn bs l
  | (_, .mut r) :: l => (r.isAgg || Nat.beq r.size 1) && r.owPlain && Pat.okIn bs l
  | (_, .box r) :: l => r.owPlain && Pat.okIn bs l

def Pat.ok (p : Pat) : Bool := nodupK (Pat.keys p) && Pat.okIn (Pat.boxes p) p

def extK {R : Type} (p : Pat) (σ : Sg) (k : (Pat.ty p).Den → Option R) : Option R :=
  bif Pat.ok p then (ext p).run σ [] fun _ a _ => bif okUps a.2 then k a.1 else none else none

/-- Where a function's results lie: those of its results, then what its pointers point at. -/
structure Fin where
  ps : List PK
  rs : List PK
  res : List ResultVar

def packVal (p : PK) (s : SV) : T (p.ty.Den × List (Nat × KV)) :=
  match p with
  | .val t => match s with
    | .cell c => (t.pack false [c]).bind fun q => .pure (q.1, q.2.2)
    | _ => .fail
  | .agg r => match s with
    | .agg cs => (r.pack false cs).bind fun q => match q.2.1 with
      | [] => .pure (q.1, q.2.2)
      | _ => .fail
    | _ => .fail
  | .ptr r => match s with
    | .ptr b off => .get (kB b) fun
      | .box cs => .chk (Nat.beq off 0) <| (r.pack false cs).bind fun q => match q.2.1 with
        | [] => .pure (q.1, (kB b, .gone) :: q.2.2)
        | _ => .fail
      | _ => .fail
    | _ => .fail
  | _ => .fail

def resSV : ResultVar → T SV
  | .tmp t => .get (kS t) fun
    | .sv s => .pure s
    | _ => .fail
  | .cell a t => .get (kS a) fun
    | .sv s => lLoad E t s
    | _ => .fail

/-- Exclusive slices that were handed over to be written, by the numbers that they had. -/
def finHds : (t : Ty) → (id : Nat) → T (t.Den × List (Nat × KV))
  | .ow r, id => .get (kX id) fun
    | .ex r' xs => (T.ofO (castL r' r xs)).bind fun y => .pure (y, [(kX id, .gone)])
    | _ => .fail
  | .cons t r, id => (finHds t id).bind fun p => (finHds r (id + t.size)).bind fun q => .pure ((p.1, q.1), p.2 ++ q.2)
  | t, _ => .pure (t.zero, [])

def finBoxes : (id : Nat) → (rs : List Ty) → T ((consAll rs).Den × List (Nat × KV))
  | _, [] => .pure ((), [])
  | id, r :: rs => .get (kB id) fun
    | .box cs => (r.pack false cs).bind fun q => match q.2.1 with
      | [] => (finBoxes (id + r.size) rs).bind fun z => .pure ((q.1, z.1), (kB id, .gone) :: q.2.2 ++ z.2)
      | _ => .fail
    | _ => .fail

/-- The pointers' structs, from the parameter's slot n on. -/
def finPtrs : (n : Nat) → (ps : List PK) → T ((rowOf (ptrsOf ps)).Den × List (Nat × KV))
  | _, [] => .pure ((), [])
  | n, .ptr r :: ps => .get (kB (homeId n)) fun
    | .box cs => (r.pack false cs).bind fun q => match q.2.1 with
      | [] => (finPtrs (n + 1) ps).bind fun z => .pure ((q.1, z.1), (kB (homeId n), .gone) :: q.2.2 ++ z.2)
      | _ => .fail
    | _ => .fail
  | n, .mut r :: ps => (finHds r (homeId n)).bind fun q => (finPtrs (n + 1) ps).bind fun z => .pure ((q.1, z.1), q.2 ++ z.2)
  | n, .clo _ rs :: ps => (finBoxes (homeId n) rs).bind fun q => (finPtrs (n + 1) ps).bind fun z => .pure ((q.1, z.1), q.2 ++ z.2)
  | n, .val _ :: ps => finPtrs (n + 1) ps
  | n, .agg _ :: ps => finPtrs (n + 1) ps

def finRes : (rs : List PK) → List ResultVar → (ps : List PK) → T ((rowOf (rs ++ ptrsOf ps)).Den × List (Nat × KV))
  | [], [], ps => finPtrs 0 ps
  | p :: rs, v :: vs, ps => (resSV E v).bind fun s => (packVal p s).bind fun q => (finRes rs vs ps).bind fun z => .pure ((q.1, z.1), q.2 ++ z.2)
  | _, _, _ => .fail

def finK {R : Type} (f : Fin) (σ : Sg) (k : (outOf f.ps f.rs).Den → Option R) : Option R :=
  (finRes E f.rs f.res f.ps).run σ [] fun _ a _ => bif okUps a.2 then k a.1 else none

/-- Remarks beside the code: what is known at a loop's head and behind it, and what the loop makes of it. -/
inductive An (out : Ty) where
  | leaf
  | seq (a b : An out)
  | cond (a b : An out)
  | block (a : An out)
  | loop (hd xp : Pat) (xid : Nat) (fn : (Pat.ty hd).Den → Option (out.Den ⊕ (Pat.ty xp).Den)) (a : An out)

def empty : Sg := fun _ => .none

def evalC {R : Type} (f : Fin) : Code → An (outOf f.ps f.rs) → Sg → (Ex → Sg → Option R) → ((outOf f.ps f.rs).Den → Option R) → Option R
  | .skip, _, σ, k, _ => k .normal σ
  | .region _ ops draw, _, σ, k, _ => evalRegion E ops draw σ (k .normal)
  | .seq x y, an, σ, k, kr =>
    evalC f x (match an with | .seq a _ => a | _ => .leaf) σ
      (fun e σ => match e with | .normal => evalC f y (match an with | .seq _ b => b | _ => .leaf) σ k kr | e => k e σ) kr
  | .cond c x y, an, σ, k, kr => (opd E 0 c).run σ [] fun σ s _ => match s with
    | .cell (.dat .bool b) =>
      bif b then evalC f x (match an with | .cond a _ => a | _ => .leaf) σ k kr else evalC f y (match an with | .cond _ b => b | _ => .leaf) σ k kr
    | _ => none
  | .block id c, an, σ, k, kr =>
    evalC f c (match an with | .block a => a | _ => .leaf) σ (fun e σ => match e with | .exit j => bif Nat.beq j id then k .normal σ else k (.exit j) σ | e => k e σ) kr
  | .exit id, _, σ, k, _ => k (.exit id) σ
  | .ret, _, σ, k, _ => k .ret σ
  | .loop _, an, σ, k, kr => match an with
    | .loop hd xp xid fn _ => extK hd σ fun x => (fn x).bind fun s => Sum.elim kr (fun y => k (.exit xid) (inj xp y empty)) s
    | _ => none
  | _, _, _, _, _ => none

/-- One round of a loop. -/
def round (f : Fin) (hd xp : Pat) (xid : Nat) (c : Code) (an : An (outOf f.ps f.rs))
    (B : (Pat.ty hd).Den → Option ((outOf f.ps f.rs).Den ⊕ (Pat.ty xp).Den)) (x : (Pat.ty hd).Den) : Option ((outOf f.ps f.rs).Den ⊕ (Pat.ty xp).Den) :=
  evalC E f c an (inj hd x empty)
    (fun e σ => match e with
      | .normal => extK hd σ B
      | .ret => finK E f σ fun r => some (.inl r)
      | .exit j => bif Nat.beq j xid then extK xp σ fun y => some (.inr y) else none)
    (fun r => some (.inl r))

def startBoxes : (id : Nat) → (rs : List Ty) → (consAll rs).Den → Sg → Sg
  | _, [], _, σ => σ
  | id, r :: rs, x, σ => startBoxes (id + r.size) rs x.2 (puts σ ((kB id, .box (r.ocs x.1 id)) :: r.oxs x.1 id))

def boxIds : (id : Nat) → List Ty → List Nat
  | _, [] => []
  | id, r :: rs => id :: boxIds (id + r.size) rs

/-- The state in which a function begins. -/
def startAt : (n : Nat) → (ps : List PK) → (rowOf ps).Den → Sg → Sg
  | _, [], _, σ => σ
  | n, .val t :: ps, x, σ => startAt (n + 1) ps x.2 (puts σ ((kS n, match t.ocs x.1 (homeId n) with | [c] => .sv (.cell c) | _ => .none) :: t.oxs x.1 (homeId n)))
  | n, .agg r :: ps, x, σ => startAt (n + 1) ps x.2 (puts σ ((kS n, .sv (.agg (r.ocs x.1 (homeId n)))) :: r.oxs x.1 (homeId n)))
  | n, .ptr r :: ps, x, σ => startAt (n + 1) ps x.2 (puts σ ((kS n, .sv (.ptr (homeId n) 0)) :: (kB (homeId n), .box (r.ocs x.1 (homeId n))) :: r.oxs x.1 (homeId n)))
  | n, .mut r :: ps, x, σ => startAt (n + 1) ps x.2 (puts σ ((kS n, bif r.isAgg then .sv (.agg (r.ocs x.1 (homeId n))) else match r.ocs x.1 (homeId n) with | [c] => .sv (.cell c) | _ => .none) :: r.oxs x.1 (homeId n)))
  | n, .clo f rs :: ps, x, σ => startAt (n + 1) ps x.2 (put (startBoxes (homeId n) rs x.1 σ) (kS n) (.sv (.clo f (boxIds (homeId n) rs))))

def evalFn (f : Fin) (c : Code) (an : An (outOf f.ps f.rs)) (x : (rowOf f.ps).Den) : Option (outOf f.ps f.rs).Den :=
  evalC E f c an (startAt 0 f.ps x empty)
    (fun e σ => match e with
      | .normal => finK E f σ some
      | .ret => finK E f σ some
      | .exit _ => none)
    some

/-! ### words of the printed texts -/
/-- Runs of one number once. -/
def compactI : List Int → List Int
  | [] => []
  | [x] => [x]
  | x :: y :: l => if x = y then compactI (y :: l) else x :: compactI (y :: l)

abbrev w64 (x : Int) : Int := IntKind.i64.wrap x
def lkp {α : Type} : List (Nat × α) → Nat → Option α
  | [], _ => none
  | (k, v) :: l, n => bif Nat.beq n k then some v else lkp l n
def lkpN : List (Nat × Nat) → Nat → Nat
  | [], _ => 0
  | (k, v) :: l, n => bif Nat.beq n k then v else lkpN l n
def memP (a b : Nat) : List (Nat × Nat) → Bool
  | [] => false
  | (c, d) :: l => (Nat.beq a c && Nat.beq b d) || memP a b l
def bodyOf (f : Func) : Code := f.body.getD .skip
/-- The loop's body at a path. -/
def loopAt : List Nat → Code → Code
  | [], c => c
  | [_], .loop c => c
  | 0 :: l, .seq x _ => loopAt l x
  | 1 :: l, .seq _ y => loopAt l y
  | 0 :: l, .cond _ x _ => loopAt l x
  | 1 :: l, .cond _ _ y => loopAt l y
  | _ :: l, .block _ x => loopAt l x
  | _ :: l, .loop x => loopAt l x
  | _, c => c

end Rg

/- The ring framework, part Ab: what Go's own functions compute, as data. -/
namespace Rg
open Go

/-- slices.Insert of one element; B: the bytes of an element. -/
def insOf {α : Type} (B : Nat) (xs : List α) (i : Int) (ys : List α) : Option (List α × Unit) :=
  bif inTo i xs.length && (Nat.beq ys.length 1 && Nat.ble ((xs.length + 1) * B) 140737488355328) then some (xs.take i.toNat ++ (ys ++ xs.drop i.toNat), ()) else none
end Rg

/- The ring framework, part B: data in memory. -/
namespace Rg
open Go

/-- Cells lie in a row of an array from o on. -/
def rowAt' (arr : Array Value) (o : Nat) (cs : List Value) : Prop := ∀ j v, cs[j]? = some v → arr[o + j]? = some v

def Rows {α : Type} (A : α → List Value → List Nat → Prop) (arr : Array Value) (sz : Nat) : List α → Nat → List Nat → Prop
  | [], _, U => U = []
  | x :: xs, o, U => ∃ cs U1 U2, U = U1 ++ U2 ∧ rowAt' arr o cs ∧ A x cs U1 ∧ Rows A arr sz xs (o + sz) U2

/-- None of the first n cells is frozen. -/
def isFree (fz : Nat × Nat) (n : Nat) : Prop := ∀ j, j < n → ¬ (fz.1 ≤ j ∧ j < fz.2)

def Ty.isU8 : Ty → Bool
  | .int .u8 => true
  | _ => false

/-- No cell of a row of such elements is frozen; and, but for bytes, no mark stands behind its end. -/
def isFreeR (r : Ty) (fz : Nat × Nat) (n : Nat) : Prop := isFree fz n ∧ (r.isU8 = false → ¬ (fz.1 ≤ n ∧ n < fz.2))

/-- Data in cells: what is shared lies in blocks of S; U are the blocks that are its own. -/
def ORep (w : World) (S : Nat → Prop) : (t : Ty) → t.Den → List Value → List Nat → Prop
  | .int k, x, vs, U => vs = [.int k x] ∧ U = []
  | .bool, x, vs, U => vs = [.bool x] ∧ U = []
  | .str, x, vs, U => vs = [.string x] ∧ U = []
  | .sl r, x, vs, U => U = [] ∧ ∃ A cap, vs = [.slice A x.length cap] ∧ x.length ≤ cap ∧
      ((A = none ∧ cap = 0) ∨ ∃ b o arr el fz, A = some ⟨b, o, none⟩ ∧ S b ∧ w.heap[b]? = some (.cells arr el fz) ∧ Rows (ORep w S r) arr r.size x o [])
  | .ow r, x, vs, U => ∃ A cap, vs = [.slice A x.length cap] ∧ x.length ≤ cap ∧
      ((A = none ∧ cap = 0 ∧ U = []) ∨ ∃ b o arr el fz U', A = some ⟨b, o, none⟩ ∧ w.heap[b]? = some (.cells arr el fz) ∧ isFreeR r fz arr.size ∧
        o + cap * r.size ≤ arr.size ∧ U = b :: U' ∧ Rows (ORep w S r) arr r.size x o U')
  | .nil, _, vs, U => vs = [] ∧ U = []
  | .cons t r, x, vs, U => ∃ v1 v2 U1 U2, vs = v1 ++ v2 ∧ U = U1 ++ U2 ∧ ORep w S t x.1 v1 U1 ∧ ORep w S r x.2 v2 U2
  | .alt _ _, _, _, _ => False

theorem ORep.length {w : World} {S : Nat → Prop} : ∀ {t : Ty} {x : t.Den} {vs : List Value} {U : List Nat}, ORep w S t x vs U → vs.length = t.size
  | .int _, _, _, _, h => by rw [h.1]; rfl
  | .bool, _, _, _, h => by rw [h.1]; rfl
  | .str, _, _, _, h => by rw [h.1]; rfl
  | .sl _, _, _, _, ⟨_, _, _, h, _⟩ => by rw [h]; rfl
  | .ow _, _, _, _, ⟨_, _, h, _⟩ => by rw [h]; rfl
  | .nil, _, _, _, h => by rw [h.1]; rfl
  | .cons t r, x, _, _, ⟨v1, v2, U1, U2, h, _, h1, h2⟩ => by
    rw [h, List.length_append, ORep.length (t := t) (x := x.1) h1, ORep.length (t := r) (x := x.2) h2]; rfl

theorem Rows.mono {α : Type} {A B : α → List Value → List Nat → Prop} {arr : Array Value} {sz : Nat} :
    ∀ {xs : List α} {o : Nat} {U : List Nat}, Rows A arr sz xs o U → (∀ x cs U', (∀ b, b ∈ U' → b ∈ U) → A x cs U' → B x cs U') → Rows B arr sz xs o U
  | [], _, _, h, _ => h
  | x :: xs, o, U, ⟨cs, U1, U2, hu, hr, ha, h⟩, hab =>
    ⟨cs, U1, U2, hu, hr, hab x cs U1 (fun b hb => by rw [hu]; exact List.mem_append_left _ hb) ha,
      Rows.mono h fun x cs U' hs => hab x cs U' fun b hb => by rw [hu]; exact List.mem_append_right _ (hs b hb)⟩

theorem ORep.mono {w w' : World} {S S' : Nat → Prop} (hS : ∀ b, S b → S' b) : ∀ {t : Ty} {x : t.Den} {vs : List Value} {U : List Nat},
    ORep w S t x vs U → (∀ b, S b ∨ b ∈ U → w'.heap[b]? = w.heap[b]?) → ORep w' S' t x vs U
  | .int _, _, _, _, h, _ => h
  | .bool, _, _, _, h, _ => h
  | .str, _, _, _, h, _ => h
  | .sl r, _, _, _, ⟨hU, A, cap, hv, hl, h⟩, hw => by
    refine ⟨hU, A, cap, hv, hl, h.imp id ?_⟩
    rintro ⟨b, o, arr, el, fz, hA, hb, hh, hr⟩
    refine ⟨b, o, arr, el, fz, hA, hS b hb, by rw [hw b (.inl hb)]; exact hh, hr.mono fun x cs U' hs ha => ?_⟩
    exact ORep.mono hS (t := r) ha fun c hc => hw c (hc.imp id fun h => absurd (hs c h) (by simp))
  | .ow r, _, _, U, ⟨A, cap, hv, hl, h⟩, hw => by
    refine ⟨A, cap, hv, hl, h.imp id ?_⟩
    rintro ⟨b, o, arr, el, fz, U', hA, hh, hf, hc, hU, hr⟩
    refine ⟨b, o, arr, el, fz, U', hA, by rw [hw b (.inr (by simp [hU]))]; exact hh, hf, hc, hU, hr.mono fun x cs U'' hs ha => ?_⟩
    exact ORep.mono hS (t := r) ha fun c hc => hw c (hc.imp id fun h => by rw [hU]; exact List.mem_cons_of_mem _ (hs c h))
  | .nil, _, _, _, h, _ => h
  | .cons t r, x, _, U, ⟨v1, v2, U1, U2, hv, hU, h1, h2⟩, hw =>
    ⟨v1, v2, U1, U2, hv, hU, ORep.mono hS (t := t) (x := x.1) h1 fun c hc => hw c (hc.imp id fun h => by rw [hU]; exact List.mem_append_left _ h),
      ORep.mono hS (t := r) (x := x.2) h2 fun c hc => hw c (hc.imp id fun h => by rw [hU]; exact List.mem_append_right _ h)⟩

/-! ### casts -/
theorem cast_pair {A B C D : Type} (h1 : A = C) (h2 : B = D) (h : (A × B) = (C × D)) (x : A × B) : cast h x = (cast h1 x.1, cast h2 x.2) := by
  subst h1; subst h2; rfl

theorem cast_list {A B : Type} (h : A = B) (h' : List A = List B) (xs : List A) : cast h' xs = xs.map (cast h) := by
  subst h
  show xs = xs.map (cast rfl)
  have : (cast (rfl : A = A)) = id := rfl
  rw [this, List.map_id]

theorem Ty.beqP_size : ∀ {a b : Ty}, a.beqP b = true → a.size = b.size
  | .int _, .int _, _ => rfl
  | .bool, .bool, _ => rfl
  | .str, .str, _ => rfl
  | .sl _, .sl _, _ => rfl
  | .ow _, .sl _, _ => rfl
  | .nil, .nil, _ => rfl
  | .cons a b, .cons c d, h => by
    simp [Ty.beqP] at h
    simp [Ty.size, Ty.beqP_size (a := a) (b := c) h.1, Ty.beqP_size (a := b) (b := d) h.2]

/-- Rows of data under another name. -/
theorem Rows.cast {α β : Type} {A : α → List Value → List Nat → Prop} {B : β → List Value → List Nat → Prop} {f : α → β} {arr : Array Value} {sz : Nat} :
    ∀ {xs : List α} {o : Nat} {U : List Nat}, Rows A arr sz xs o U → (∀ x cs U', (∀ b, b ∈ U' → b ∈ U) → A x cs U' → B (f x) cs []) → Rows B arr sz (xs.map f) o []
  | [], _, _, _, _ => rfl
  | x :: xs, o, U, ⟨cs, U1, U2, hu, hr, ha, h⟩, hab =>
    ⟨cs, [], [], rfl, hr, hab x cs U1 (fun b hb => by rw [hu]; exact List.mem_append_left _ hb) ha,
      Rows.cast h fun x cs U' hs => hab x cs U' fun b hb => by rw [hu]; exact List.mem_append_right _ (hs b hb)⟩

/-- What is exclusive may be shared from now on. -/
theorem ORep.freeze {w : World} {S S' : Nat → Prop} (hS : ∀ b, S b → S' b) : ∀ {t t' : Ty} (h : t.beqP t' = true) {x : t.Den} {vs : List Value} {U : List Nat},
    ORep w S t x vs U → (∀ b, b ∈ U → S' b) → ORep w S' t' (cast (Ty.beqP_den h) x) vs []
  | .int a, .int b, h, x, vs, U, hx, _ => by
    obtain rfl := kBeq_eq (a := a) (b := b) (by simpa [Ty.beqP] using h)
    exact ⟨hx.1, rfl⟩
  | .bool, .bool, _, _, _, _, hx, _ => ⟨hx.1, rfl⟩
  | .str, .str, _, _, _, _, hx, _ => ⟨hx.1, rfl⟩
  | .sl a, .sl b, h, x, vs, U, ⟨hU, A, cap, hv, hl, hx⟩, hb => by
    have hab : a.beqP b = true := by simpa [Ty.beqP] using h
    have e := cast_list (Ty.beqP_den hab) (Ty.beqP_den h) x
    rw [e]
    refine ⟨rfl, A, cap, by simpa using hv, by simpa using hl, hx.imp id ?_⟩
    rintro ⟨bb, o, arr, el, fz, hA, hs, hh, hr⟩
    rw [← Ty.beqP_size hab]
    exact ⟨bb, o, arr, el, fz, hA, hS bb hs, hh, hr.cast fun x cs U' hs' ha => ORep.freeze hS hab ha fun c hc => absurd (hs' c hc) (by simp)⟩
  | .ow a, .sl b, h, x, vs, U, ⟨A, cap, hv, hl, hx⟩, hb => by
    have hab : a.beqP b = true := by simpa [Ty.beqP] using h
    have e := cast_list (Ty.beqP_den hab) (Ty.beqP_den h) x
    rw [e]
    refine ⟨rfl, A, cap, by simpa using hv, by simpa using hl, ?_⟩
    rcases hx with ⟨h1, h2, _⟩ | ⟨bb, o, arr, el, fz, U', hA, hh, _, _, hU, hr⟩
    · exact .inl ⟨h1, h2⟩
    · rw [← Ty.beqP_size hab]
      exact .inr ⟨bb, o, arr, el, fz, hA, hb bb (by simp [hU]), hh, hr.cast fun x cs U'' hs' ha => ORep.freeze hS hab ha fun c hc => hb c (by rw [hU]; exact List.mem_cons_of_mem _ (hs' c hc))⟩
  | .nil, .nil, _, _, _, _, hx, _ => ⟨hx.1, rfl⟩
  | .cons a b, .cons c d, h, x, vs, U, ⟨v1, v2, U1, U2, hv, hU, h1, h2⟩, hb => by
    have hh : a.beqP c = true ∧ b.beqP d = true := by simpa [Ty.beqP] using h
    have e := cast_pair (Ty.beqP_den hh.1) (Ty.beqP_den hh.2) (Ty.beqP_den h) x
    rw [e]
    exact ⟨v1, v2, [], [], hv, rfl, ORep.freeze hS hh.1 h1 fun q hq => hb q (by rw [hU]; exact List.mem_append_left _ hq),
      ORep.freeze hS hh.2 h2 fun q hq => hb q (by rw [hU]; exact List.mem_append_right _ hq)⟩

/-- Plain data have no blocks of their own. -/
theorem ORep.plain {w : World} {S : Nat → Prop} : ∀ {t : Ty} {x : t.Den} {vs : List Value} {U : List Nat}, t.plain = true → ORep w S t x vs U → U = []
  | .int _, _, _, _, _, h => h.2
  | .bool, _, _, _, _, h => h.2
  | .str, _, _, _, _, h => h.2
  | .sl _, _, _, _, _, h => h.1
  | .nil, _, _, _, _, h => h.2
  | .cons t r, x, _, _, hp, ⟨v1, v2, U1, U2, _, hU, h1, h2⟩ => by
    simp [Ty.plain] at hp
    rw [hU, ORep.plain (t := t) (x := x.1) hp.1 h1, ORep.plain (t := r) (x := x.2) hp.2 h2]; rfl

/-- Data that have no shared part do not hang on what is shared. -/
theorem ORep.noSl {w : World} {S S' : Nat → Prop} : ∀ {t : Ty} {x : t.Den} {vs : List Value} {U : List Nat}, t.noSl = true → ORep w S t x vs U → ORep w S' t x vs U
  | .int _, _, _, _, _, h => h
  | .bool, _, _, _, _, h => h
  | .str, _, _, _, _, h => h
  | .ow r, _, _, U, hn, ⟨A, cap, hv, hl, h⟩ => by
    refine ⟨A, cap, hv, hl, h.imp id ?_⟩
    rintro ⟨b, o, arr, el, fz, U', hA, hh, hf, hc, hU, hr⟩
    exact ⟨b, o, arr, el, fz, U', hA, hh, hf, hc, hU, hr.mono fun x cs U'' _ ha => ORep.noSl (t := r) (by simpa [Ty.noSl] using hn) ha⟩
  | .nil, _, _, _, _, h => h
  | .cons t r, x, _, U, hn, ⟨v1, v2, U1, U2, hv, hU, h1, h2⟩ => by
    simp [Ty.noSl] at hn
    exact ⟨v1, v2, U1, U2, hv, hU, ORep.noSl (t := t) (x := x.1) hn.1 h1, ORep.noSl (t := r) (x := x.2) hn.2 h2⟩

/-! ### rows -/
theorem rowAt'_getElem {arr : Array Value} {o : Nat} {cs : List Value} (h : rowAt' arr o cs) {j : Nat} {v : Value} (hj : cs[j]? = some v) : arr[o + j]? = some v := h j v hj

theorem Rows.get {α : Type} {A : α → List Value → List Nat → Prop} {arr : Array Value} {sz : Nat} :
    ∀ {xs : List α} {o : Nat} {U : List Nat} {i : Nat} {x : α}, Rows A arr sz xs o U → xs[i]? = some x →
      ∃ cs U1 U2 U3, U = U1 ++ U2 ++ U3 ∧ rowAt' arr (o + i * sz) cs ∧ A x cs U2
  | x :: xs, o, U, 0, y, ⟨cs, U1, U2, hu, hr, ha, _⟩, hi => by
    simp at hi; subst hi
    exact ⟨cs, [], U1, U2, by simpa using hu, by simpa using hr, ha⟩
  | x :: xs, o, U, i + 1, y, ⟨cs, U1, U2, hu, hr, ha, h⟩, hi => by
    simp at hi
    obtain ⟨cs', V1, V2, V3, hV, hr', ha'⟩ := Rows.get h hi
    refine ⟨cs', U1 ++ V1, V2, V3, by rw [hu, hV]; simp [List.append_assoc], ?_, ha'⟩
    have : o + (i + 1) * sz = o + sz + i * sz := by rw [Nat.succ_mul]; omega
    rw [this]; exact hr'

theorem Rows.append {α : Type} {A : α → List Value → List Nat → Prop} {arr : Array Value} {sz : Nat} :
    ∀ {xs ys : List α} {o : Nat} {U V : List Nat}, Rows A arr sz xs o U → Rows A arr sz ys (o + xs.length * sz) V → Rows A arr sz (xs ++ ys) o (U ++ V)
  | [], ys, o, U, V, h, hy => by
    have : U = [] := h
    subst this; simpa using hy
  | x :: xs, ys, o, U, V, ⟨cs, U1, U2, hu, hr, ha, h⟩, hy => by
    refine ⟨cs, U1, U2 ++ V, by rw [hu, List.append_assoc], hr, ha, h.append ?_⟩
    have : o + (x :: xs).length * sz = o + sz + xs.length * sz := by simp [Nat.succ_mul]; omega
    rw [← this]; exact hy

theorem Rows.split {α : Type} {A : α → List Value → List Nat → Prop} {arr : Array Value} {sz : Nat} :
    ∀ {xs ys : List α} {o : Nat} {U : List Nat}, Rows A arr sz (xs ++ ys) o U → ∃ U1 U2, U = U1 ++ U2 ∧ Rows A arr sz xs o U1 ∧ Rows A arr sz ys (o + xs.length * sz) U2
  | [], ys, o, U, h => ⟨[], U, rfl, rfl, by simpa using h⟩
  | x :: xs, ys, o, U, ⟨cs, U1, U2, hu, hr, ha, h⟩ => by
    obtain ⟨V1, V2, hV, h1, h2⟩ := Rows.split h
    refine ⟨U1 ++ V1, V2, by rw [hu, hV, List.append_assoc], ⟨cs, U1, V1, rfl, hr, ha, h1⟩, ?_⟩
    have : o + (x :: xs).length * sz = o + sz + xs.length * sz := by simp [Nat.succ_mul]; omega
    rw [this]; exact h2

/-- Rows lie in an array that agrees with the first one where they lie. -/
theorem Rows.arr {α : Type} {A : α → List Value → List Nat → Prop} {arr arr' : Array Value} {sz : Nat} (hA : ∀ x cs U, A x cs U → cs.length = sz) :
    ∀ {xs : List α} {o : Nat} {U : List Nat}, Rows A arr sz xs o U → (∀ j, o ≤ j → j < o + xs.length * sz → arr'[j]? = arr[j]?) → Rows A arr' sz xs o U
  | [], _, _, h, _ => h
  | x :: xs, o, U, ⟨cs, U1, U2, hu, hr, ha, h⟩, he => by
    have hl := hA _ _ _ ha
    have e1 : (x :: xs).length * sz = xs.length * sz + sz := by simp [Nat.succ_mul]
    refine ⟨cs, U1, U2, hu, fun j v hj => ?_, ha, h.arr hA fun j h1 h2 => he j (by omega) (by omega)⟩
    have hjl : j < cs.length := by
      rcases Nat.lt_or_ge j cs.length with h | h
      · exact h
      · rw [List.getElem?_eq_none h] at hj; cases hj
    have : o + j < o + (x :: xs).length * sz := by
      have : sz ≤ (x :: xs).length * sz := by simp [Nat.succ_mul]
      omega
    rw [he (o + j) (by omega) this]
    exact hr j v hj

end Rg

/- The ring framework, part C: operations of a region in any order. -/
namespace Rg
open Go

theorem put_same {σ : Sg} {k : Nat} {v : KV} (h : σ k = v) : put σ k v = σ := by
  funext n
  unfold put
  cases hn : Nat.beq n k
  · rfl
  · have := Nat.eq_of_beq_eq_true hn
    subst this; simp [h]

theorem T.run_eval {α R : Type} : ∀ (t : T α) {σ : Sg} {rs : List Nat} {k : Sg → α → List Nat → Option R} {r : R},
    t.run σ rs k = some r → ∃ a rs', t.eval σ rs = some (a, rs') ∧ k σ a rs' = some r
  | .pure a, σ, rs, k, r, h => ⟨a, rs, rfl, h⟩
  | .get key f, σ, rs, k, r, h => T.run_eval (f (σ key)) h
  | .chk b t, σ, rs, k, r, h => by
    cases b
    · simp [T.run] at h
    · exact T.run_eval t (by simpa [T.run] using h)
  | .br b x y, σ, rs, k, r, h => by
    cases b
    · exact T.run_eval y (by simpa [T.run] using h)
    · exact T.run_eval x (by simpa [T.run] using h)
  | .grd key w x y, σ, rs, k, r, h => by
    simp only [T.run] at h
    simp only [T.eval]
    split at h
    · rename_i b hb
      try simp only [hb]
      have hp : ∀ c : Bool, b = c → put σ key (.sv (.cell (.dat .bool c))) = σ := fun c hc => put_same (by rw [hb, hc])
      cases b
      · rw [hp false rfl] at h
        cases w
        · exact T.run_eval x (by simpa using h)
        · exact T.run_eval y (by simpa using h)
      · rw [hp true rfl] at h
        cases w
        · exact T.run_eval y (by simpa using h)
        · exact T.run_eval x (by simpa using h)
    · rename_i hb
      try simp only [hb]
      exact T.run_eval y h
    · cases h
  | .ask _ o f, σ, rs, k, r, h => by
    cases o with
    | none => simp [T.run] at h
    | some y => exact T.run_eval (f y) (by simpa [T.run] using h)
  | .fail, _, _, _, _, h => by simp [T.run] at h

theorem T.eval_keys {α : Type} : ∀ (t : T α) {σ : Sg} {rs : List Nat} {a : α} {rs' : List Nat}, t.eval σ rs = some (a, rs') → ∀ k, k ∈ rs → k ∈ rs'
  | .pure a, σ, rs, _, _, h => by simp [T.eval] at h; rw [← h.2]; exact fun _ h => h
  | .get key f, σ, rs, _, _, h => fun k hk => T.eval_keys (f (σ key)) h k (List.mem_cons_of_mem _ hk)
  | .chk b t, σ, rs, _, _, h => by
    cases b
    · simp [T.eval] at h
    · exact T.eval_keys t (by simpa [T.eval] using h)
  | .br b x y, σ, rs, _, _, h => by
    cases b
    · exact T.eval_keys y (by simpa [T.eval] using h)
    · exact T.eval_keys x (by simpa [T.eval] using h)
  | .grd key w x y, σ, rs, _, _, h => by
    intro k hk
    have hk' : k ∈ key :: rs := List.mem_cons_of_mem _ hk
    simp only [T.eval] at h
    split at h
    · rename_i b hb
      cases b <;> cases w
      · exact T.eval_keys x (by simpa using h) k hk'
      · exact T.eval_keys y (by simpa using h) k hk'
      · exact T.eval_keys y (by simpa using h) k hk'
      · exact T.eval_keys x (by simpa using h) k hk'
    · exact T.eval_keys y h k hk'
    · cases h
  | .ask _ o f, σ, rs, _, _, h => by
    cases o with
    | none => simp [T.eval] at h
    | some y => exact T.eval_keys (f y) (by simpa [T.eval] using h)
  | .fail, _, _, _, _, h => by simp [T.eval] at h

/-- The answer hangs on the keys that were read alone. -/
theorem T.eval_local {α : Type} : ∀ (t : T α) {σ σ' : Sg} {rs : List Nat} {a : α} {rs' : List Nat}, t.eval σ rs = some (a, rs') → (∀ k, k ∈ rs' → σ' k = σ k) → t.eval σ' rs = some (a, rs')
  | .pure a, _, _, _, _, _, h, _ => h
  | .get key f, σ, σ', rs, a, rs', h, he => by
    have hk : σ' key = σ key := he key (T.eval_keys (f (σ key)) h key (List.mem_cons_self ..))
    simp only [T.eval] at h ⊢
    rw [hk]
    exact T.eval_local (f (σ key)) h he
  | .chk b t, _, _, _, _, _, h, he => by
    cases b
    · simp [T.eval] at h
    · simp only [T.eval, cond_true] at h ⊢; exact T.eval_local t h he
  | .br b x y, _, _, _, _, _, h, he => by
    cases b
    · simp only [T.eval, cond_false] at h ⊢; exact T.eval_local y h he
    · simp only [T.eval, cond_true] at h ⊢; exact T.eval_local x h he
  | .grd key w x y, σ, σ', rs, a, rs', h, he => by
    have hk : σ' key = σ key := by
      refine he key ?_
      simp only [T.eval] at h
      split at h
      · rename_i b hb
        cases b <;> cases w
        · exact T.eval_keys x (by simpa using h) key (List.mem_cons_self ..)
        · exact T.eval_keys y (by simpa using h) key (List.mem_cons_self ..)
        · exact T.eval_keys y (by simpa using h) key (List.mem_cons_self ..)
        · exact T.eval_keys x (by simpa using h) key (List.mem_cons_self ..)
      · exact T.eval_keys y h key (List.mem_cons_self ..)
      · cases h
    simp only [T.eval] at h ⊢
    rw [hk]
    split at h
    · rename_i b hb
      cases b <;> cases w <;> simp only [cond_true, cond_false] at h ⊢
      · exact T.eval_local x h he
      · exact T.eval_local y h he
      · exact T.eval_local y h he
      · exact T.eval_local x h he
    · exact T.eval_local y h he
    · cases h
  | .ask _ o f, _, _, _, _, _, h, he => by
    cases o with
    | none => simp [T.eval] at h
    | some y => simp only [T.eval] at h ⊢; exact T.eval_local (f y) h he
  | .fail, _, _, _, _, _, h, _ => by simp [T.eval] at h

theorem T.eval_bind {α β : Type} : ∀ (t : T α) (f : α → T β) {σ : Sg} {rs : List Nat} {b : β} {rs' : List Nat}, (t.bind f).eval σ rs = some (b, rs') →
    ∃ a r1, t.eval σ rs = some (a, r1) ∧ (f a).eval σ r1 = some (b, rs')
  | .pure a, f, σ, rs, b, rs', h => ⟨a, rs, rfl, h⟩
  | .get key g, f, σ, rs, b, rs', h => T.eval_bind (g (σ key)) f h
  | .chk c t, f, σ, rs, b, rs', h => by
    cases c
    · simp [T.bind, T.eval] at h
    · simp only [T.bind, T.eval, cond_true] at h ⊢; exact T.eval_bind t f h
  | .br c x y, f, σ, rs, b, rs', h => by
    cases c
    · simp only [T.bind, T.eval, cond_false] at h ⊢; exact T.eval_bind y f h
    · simp only [T.bind, T.eval, cond_true] at h ⊢; exact T.eval_bind x f h
  | .grd key w x y, f, σ, rs, b, rs', h => by
    simp only [T.bind, T.eval] at h ⊢
    split at h
    · rename_i c hc
      cases c <;> cases w <;> simp only [cond_true, cond_false] at h ⊢
      · exact T.eval_bind x f h
      · exact T.eval_bind y f h
      · exact T.eval_bind y f h
      · exact T.eval_bind x f h
    · exact T.eval_bind y f h
    · cases h
  | .ask _ o g, f, σ, rs, b, rs', h => by
    cases o with
    | none => simp [T.bind, T.eval] at h
    | some y => simp only [T.bind, T.eval] at h ⊢; exact T.eval_bind (g y) f h
  | .fail, _, _, _, _, _, h => by simp [T.bind, T.eval] at h

/-! ### what is written -/
theorem put_ne {σ : Sg} {k n : Nat} {v : KV} (h : n ≠ k) : put σ k v n = σ n := by
  unfold put
  cases hn : Nat.beq n k
  · rfl
  · exact absurd (Nat.eq_of_beq_eq_true hn) h

theorem put_eq {σ : Sg} {k : Nat} {v : KV} : put σ k v k = v := by
  unfold put
  have : Nat.beq k k = true := Nat.beq_refl k
  simp [this]

theorem puts_not {ws : List (Nat × KV)} : ∀ {σ : Sg} {k : Nat}, k ∉ ws.map (·.1) → puts σ ws k = σ k := by
  induction ws with
  | nil => intro σ k _; rfl
  | cons p l ih =>
    intro σ k h
    obtain ⟨q, v⟩ := p
    simp only [List.map_cons, List.mem_cons, not_or] at h
    show puts (put σ q v) l k = σ k
    rw [ih h.2, put_ne h.1]

/-- The last write counts: where a key is written, what was there does not matter. -/
theorem puts_mem {ws : List (Nat × KV)} : ∀ {σ σ' : Sg} {k : Nat}, k ∈ ws.map (·.1) → puts σ ws k = puts σ' ws k := by
  induction ws with
  | nil => intro σ σ' k h; simp at h
  | cons p l ih =>
    intro σ σ' k h
    obtain ⟨q, v⟩ := p
    show puts (put σ q v) l k = puts (put σ' q v) l k
    by_cases hl : k ∈ l.map (·.1)
    · exact ih hl
    · rw [puts_not hl, puts_not hl]
      have : k = q := by
        simp only [List.map_cons, List.mem_cons] at h
        exact h.resolve_right hl
      subst this
      rw [put_eq, put_eq]

/-! ### a chain of operations in the order of the text -/
section
variable (E : Env) (ops : Array Oper)

def Chain : List Oper → Sg → List (List (Nat × KV) × List Nat) → Sg → Prop
  | [], σ, [], σ' => σ = σ'
  | o :: l, σ, p :: st, σ' => (lopG E ops o).eval σ [] = some p ∧ Chain l (puts σ p.1) st σ'
  | _, _, _, _ => False

theorem evalOps_chain {R : Type} : ∀ (l : List Oper) {σ : Sg} {lg : Log} {k : Sg → Log → Option R} {r : R}, evalOps E ops l σ lg k = some r →
    ∃ st σ', Chain E ops l σ st σ' ∧ k σ' ((st.map fun p => (p.1.map (·.1), p.2)).reverse ++ lg) = some r
  | [], σ, lg, k, r, h => ⟨[], σ, rfl, h⟩
  | o :: l, σ, lg, k, r, h => by
    simp only [evalOps] at h
    obtain ⟨ws, rs, h1, h2⟩ := T.run_eval _ h
    obtain ⟨st, σ', hc, hk⟩ := evalOps_chain l h2
    exact ⟨(ws, rs) :: st, σ', ⟨h1, hc⟩, by simpa [List.append_assoc] using hk⟩

/-- The state behind those of the operations that X tells, in the order of the text. -/
def tau (X : Nat → Bool) : Nat → List (List (Nat × KV) × List Nat) → Sg → Sg
  | _, [], σ => σ
  | i, p :: l, σ => tau X (i + 1) l (bif X i then puts σ p.1 else σ)

theorem tau_agree (X Y : Nat → Bool) {k : Nat} : ∀ (st : List (List (Nat × KV) × List Nat)) (i : Nat) {σ σ' : Sg},
    (∀ j p, st[j]? = some p → k ∈ p.1.map (·.1) → X (i + j) = Y (i + j)) → σ k = σ' k → tau X i st σ k = tau Y i st σ' k
  | [], _, _, _, _, h => h
  | p :: l, i, σ, σ', hXY, h => by
    refine tau_agree X Y l (i + 1) (fun j q hj hk => ?_) ?_
    · have := hXY (j + 1) q (by simpa using hj) hk
      have e : i + (j + 1) = i + 1 + j := by omega
      rwa [e] at this
    · by_cases hk : k ∈ p.1.map (·.1)
      · have hx := hXY 0 p rfl hk
        simp only [Nat.add_zero] at hx
        rw [hx]
        cases Y i
        · exact h
        · exact puts_mem hk
      · cases X i <;> cases Y i <;> simp only [cond_true, cond_false, puts_not hk] <;> exact h

theorem chain_tau : ∀ (l : List Oper) (i : Nat) {σ σ' : Sg} {st : List (List (Nat × KV) × List Nat)}, Chain E ops l σ st σ' →
    st.length = l.length ∧ tau (fun _ => true) i st σ = σ' ∧
    ∀ j o, l[j]? = some o → ∃ p, st[j]? = some p ∧ (lopG E ops o).eval (tau (fun n => Nat.blt n (i + j)) i st σ) [] = some p
  | [], i, σ, σ', [], h => ⟨rfl, h, fun j o h => by simp at h⟩
  | o :: l, i, σ, σ', p :: st, ⟨h1, h2⟩ => by
    obtain ⟨hl, ht, hj⟩ := chain_tau l (i + 1) h2
    refine ⟨by simp [hl], ht, fun j o' ho => ?_⟩
    cases j with
    | zero =>
      simp at ho; subst ho
      refine ⟨p, rfl, ?_⟩
      have e : tau (fun n => Nat.blt n (i + 0)) i (p :: st) σ = σ := by
        funext k
        have : ∀ (st : List (List (Nat × KV) × List Nat)) (m : Nat) (σ : Sg), i ≤ m → tau (fun n => Nat.blt n (i + 0)) m st σ = σ := by
          intro st
          induction st with
          | nil => intro m σ _; rfl
          | cons q l ih =>
            intro m σ hm
            have hb : Nat.blt m (i + 0) = false := by
              cases hb : Nat.blt m (i + 0)
              · rfl
              · have := Nat.blt_eq.mp hb; omega
            simp only [tau, hb, cond_false]
            exact ih (m + 1) σ (by omega)
        rw [this (p :: st) i σ (Nat.le_refl _)]
      rw [e]; exact h1
    | succ j =>
      obtain ⟨q, hq, he⟩ := hj j o' (by simpa using ho)
      refine ⟨q, by simpa using hq, ?_⟩
      have hb : Nat.blt i (i + (j + 1)) = true := Nat.blt_eq.mpr (by omega)
      have e : i + (j + 1) = i + 1 + j := by omega
      show (lopG E ops o').eval (tau (fun n => Nat.blt n (i + (j + 1))) (i + 1) st (bif Nat.blt i (i + (j + 1)) then puts σ p.1 else σ)) [] = some q
      rw [hb, e]
      exact he
end

/-! ### which operations are apart -/
theorem memN_iff {n : Nat} : ∀ {l : List Nat}, memN n l = true ↔ n ∈ l
  | [] => by simp [memN]
  | m :: l => by
    simp only [memN, Bool.or_eq_true, List.mem_cons, memN_iff (l := l)]
    exact or_congr ⟨Nat.eq_of_beq_eq_true, fun h => h ▸ Nat.beq_refl n⟩ Iff.rfl

theorem meets_false {l m : List Nat} (h : meets l m = false) : ∀ k, k ∈ l → k ∉ m := by
  induction l with
  | nil => intro k hk; simp at hk
  | cons n l ih =>
    simp only [meets, Bool.or_eq_false_iff] at h
    intro k hk
    rcases List.mem_cons.1 hk with rfl | hk
    · intro hm
      rw [memN_iff.2 hm] at h
      exact absurd h.1 (by simp)
    · exact ih h.2 k hk

theorem bit_lor (a b j : Nat) : bit (Nat.lor a b) j = true → bit a j = true ∨ bit b j = true := by
  have key : ∀ m : Nat, bit m j = m.testBit j := by
    intro m
    simp only [bit, Nat.testBit]
    show Nat.beq ((m >>> j) &&& 1) 1 = (1 &&& (m >>> j) != 0)
    rw [Nat.and_comm 1]
    have : (m >>> j) &&& 1 = 0 ∨ (m >>> j) &&& 1 = 1 := by
      rw [Nat.and_one_is_mod]; omega
    rcases this with h | h <;> rw [h] <;> rfl
  rw [key, key, key]
  show (a ||| b).testBit j = true → _
  rw [Nat.testBit_or]
  simp

theorem bit_shift (i j : Nat) : bit (Nat.shiftLeft 1 i) j = true → i = j := by
  have key : ∀ m : Nat, bit m j = m.testBit j := by
    intro m
    simp only [bit, Nat.testBit]
    show Nat.beq ((m >>> j) &&& 1) 1 = (1 &&& (m >>> j) != 0)
    rw [Nat.and_comm 1]
    have : (m >>> j) &&& 1 = 0 ∨ (m >>> j) &&& 1 = 1 := by
      rw [Nat.and_one_is_mod]; omega
    rcases this with h | h <;> rw [h] <;> rfl
  rw [key]
  show (1 <<< i).testBit j = true → _
  rw [Nat.one_shiftLeft, Nat.testBit_two_pow]
  simp

/-- X is closed: with an operation it has those on which it hangs directly. -/
def Closed (l : List Oper) (X : Nat → Bool) : Prop :=
  ∀ i o, l[i]? = some o → X i = true → ∀ e, e ∈ o.after.toList → Region.binds .any e = true → X e.on = true

theorem ancsOf_closed {acc : List Nat} {X : Nat → Bool} (hacc : ∀ i, X i = true → ∀ j, bit (acc.getD i 0) j = true → X j = true) :
    ∀ (es : List Edge) (s : Nat), (∀ e, e ∈ es → Region.binds .any e = true → X e.on = true) → (∀ j, bit s j = true → X j = true) →
      ∀ j, bit (ancsOf acc es s) j = true → X j = true
  | [], s, _, hs => hs
  | e :: l, s, he, hs => by
    refine ancsOf_closed hacc l _ (fun e' h' => he e' (List.mem_cons_of_mem _ h')) ?_
    intro j hj
    cases hb : Region.binds .any e
    · rw [hb] at hj; exact hs j (by simpa using hj)
    · rw [hb] at hj
      simp only [cond_true] at hj
      have hx := he e (List.mem_cons_self ..) hb
      rcases bit_lor _ _ _ hj with h | h
      · exact hs j h
      · rcases bit_lor _ _ _ h with h | h
        · exact bit_shift _ _ h ▸ hx
        · exact hacc e.on hx j h

theorem bit_zero (j : Nat) : bit 0 j = false := by
  simp [bit, Nat.beq]

/-- All bits of the ancestors of an operation whose direct ones lie in a closed set lie in it. -/
theorem ancs_spec {X : Nat → Bool} : ∀ (l : List Oper) (pre : List Oper) (acc : List Nat), acc.length = pre.length → Closed (pre ++ l) X →
    (∀ (i : Nat) (hi : i < pre.length), (∀ e, e ∈ (pre[i]).after.toList → Region.binds .any e = true → X e.on = true) → ∀ j, bit (acc.getD i 0) j = true → X j = true) →
    ∀ (i : Nat) (o : Oper), (pre ++ l)[i]? = some o → (∀ e, e ∈ o.after.toList → Region.binds .any e = true → X e.on = true) → ∀ (a : Nat), (ancs l acc)[i]? = some a → ∀ j, bit a j = true → X j = true
  | [], pre, acc, hlen, hcl, hacc => by
    intro i o ho he a ha j hj
    simp only [List.append_nil] at ho
    simp only [ancs] at ha
    have hi : i < pre.length := by
      rcases Nat.lt_or_ge i pre.length with h | h
      · exact h
      · rw [List.getElem?_eq_none h] at ho; cases ho
    refine hacc i hi ?_ j ?_
    · rw [List.getElem?_eq_getElem hi] at ho
      cases ho; exact he
    · rw [List.getD_eq_getElem?_getD, ha]; exact hj
  | o :: l, pre, acc, hlen, hcl, hacc => by
    have e1 : pre ++ o :: l = (pre ++ [o]) ++ l := by simp
    intro i o' ho he a ha
    rw [e1] at ho
    refine ancs_spec l (pre ++ [o]) (acc ++ [ancsOf acc o.after.toList 0]) (by simp [hlen]) (by rw [← e1]; exact hcl) ?_ i o' ho he a ha
    intro i hi hd j hj
    rw [List.getD_eq_getElem?_getD] at hj
    by_cases h : i < pre.length
    · rw [List.getElem?_append_left (by omega)] at hj
      have hd' : ∀ e, e ∈ (pre[i]).after.toList → Region.binds .any e = true → X e.on = true := by
        rw [List.getElem_append_left h] at hd; exact hd
      exact hacc i h hd' j (by rw [List.getD_eq_getElem?_getD]; exact hj)
    · have hil : i = pre.length := by simp at hi; omega
      subst hil
      rw [← hlen, List.getElem?_concat_length] at hj
      simp at hj
      have hd' : ∀ e, e ∈ o.after.toList → Region.binds .any e = true → X e.on = true := by
        simpa using hd
      refine ancsOf_closed (acc := acc) ?_ o.after.toList 0 hd' (fun j h => by rw [bit_zero] at h; cases h) j hj
      intro i hX j hb
      by_cases hip : i < pre.length
      · refine hacc i hip ?_ j hb
        exact hcl i pre[i] (by rw [List.getElem?_append_left hip, List.getElem?_eq_getElem hip]) hX
      · have : acc.getD i 0 = 0 := by
          rw [List.getD_eq_getElem?_getD, List.getElem?_eq_none (by omega)]; rfl
        rw [this, bit_zero] at hb; cases hb

theorem back_spec : ∀ (l : List Oper) (i0 : Nat), back i0 l = true → ∀ (i : Nat) (o : Oper), l[i]? = some o → ∀ e, e ∈ o.after.toList → Region.binds .any e = true → e.on < i0 + i
  | [], _, _, i, o, h => by simp at h
  | o :: l, i0, hb, i, o', h => by
    simp only [back, Bool.and_eq_true] at hb
    cases i with
    | zero =>
      simp at h; subst h
      intro e he hbd
      have := List.all_eq_true.1 hb.1 e he
      rw [hbd] at this
      simp at this
      exact this
    | succ i =>
      intro e he hbd
      have := back_spec l (i0 + 1) hb.2 i o' (by simpa using h) e he hbd
      omega

theorem apart1_spec {i : Nat} {wi ri : List Nat} {lg : Log} {an : List Nat} : ∀ (n : Nat), apart1 i wi ri lg an n = true → ∀ j, j < n → ∀ wj rj a, lg[j]? = some (wj, rj) → an[i]? = some a →
    bit a j = true ∨ (meets wi wj = false ∧ meets wi rj = false ∧ meets ri wj = false)
  | 0, _, j, hj => by omega
  | n + 1, h, j, hj => by
    intro wj rj a hl ha
    simp only [apart1, Bool.and_eq_true] at h
    by_cases hjn : j = n
    · subst hjn
      have h1 := h.1
      rw [hl, ha] at h1
      simp only [Bool.or_eq_true, Bool.not_eq_true'] at h1
      rcases h1 with h1 | h1
      · exact .inl h1
      · simp only [Bool.or_eq_false_iff] at h1
        exact .inr ⟨h1.1.1, h1.1.2, h1.2⟩
    · exact apart1_spec n h.2 j (by omega) wj rj a hl ha

theorem apartAll_spec {lg : Log} {an : List Nat} : ∀ (n : Nat), apartAll lg an n = true → ∀ i j, j < i → i < n → ∀ wi ri wj rj a, lg[i]? = some (wi, ri) → lg[j]? = some (wj, rj) → an[i]? = some a →
    bit a j = true ∨ (meets wi wj = false ∧ meets wi rj = false ∧ meets ri wj = false)
  | 0, _, i, j, _, hi => by omega
  | n + 1, h, i, j, hj, hi => by
    intro wi ri wj rj a h1 h2 h3
    simp only [apartAll, Bool.and_eq_true] at h
    by_cases hin : i = n
    · subst hin
      have := h.1
      rw [h1] at this
      exact apart1_spec i this j hj wj rj a h2 h3
    · exact apartAll_spec n h.2 i j hj (by omega) wi ri wj rj a h1 h2 h3

theorem tau_step : ∀ (st : List (List (Nat × KV) × List Nat)) (i0 i : Nat) {σ : Sg} {p : List (Nat × KV) × List Nat}, st[i]? = some p →
    tau (fun n => Nat.blt n (i0 + i + 1)) i0 st σ = puts (tau (fun n => Nat.blt n (i0 + i)) i0 st σ) p.1
  | [], _, _, _, _, h => by simp at h
  | q :: l, i0, 0, σ, p, h => by
    simp at h; subst h
    have hb1 : Nat.blt i0 (i0 + 0 + 1) = true := Nat.blt_eq.mpr (by omega)
    have hb0 : Nat.blt i0 (i0 + 0) = false := by
      cases hb : Nat.blt i0 (i0 + 0)
      · rfl
      · have := Nat.blt_eq.mp hb; omega
    have idle : ∀ (c : Nat) (st : List (List (Nat × KV) × List Nat)) (m : Nat) (σ : Sg), c ≤ m → tau (fun n => Nat.blt n c) m st σ = σ := by
      intro c st
      induction st with
      | nil => intro m σ _; rfl
      | cons q l ih =>
        intro m σ hm
        have hb : Nat.blt m c = false := by
          cases hb : Nat.blt m c
          · rfl
          · have := Nat.blt_eq.mp hb; omega
        simp only [tau, hb, cond_false]
        exact ih (m + 1) σ (by omega)
    show tau (fun n => Nat.blt n (i0 + 0 + 1)) (i0 + 1) l (bif Nat.blt i0 (i0 + 0 + 1) then puts σ q.1 else σ) = puts (tau (fun n => Nat.blt n (i0 + 0)) (i0 + 1) l (bif Nat.blt i0 (i0 + 0) then puts σ q.1 else σ)) q.1
    rw [hb1, hb0, idle (i0 + 0 + 1) l (i0 + 1) _ (by omega), idle (i0 + 0) l (i0 + 1) _ (by omega)]
    rfl
  | q :: l, i0, i + 1, σ, p, h => by
    have hb1 : Nat.blt i0 (i0 + (i + 1) + 1) = true := Nat.blt_eq.mpr (by omega)
    have hb0 : Nat.blt i0 (i0 + (i + 1)) = true := Nat.blt_eq.mpr (by omega)
    show tau (fun n => Nat.blt n (i0 + (i + 1) + 1)) (i0 + 1) l (bif Nat.blt i0 (i0 + (i + 1) + 1) then puts σ q.1 else σ) = puts (tau (fun n => Nat.blt n (i0 + (i + 1))) (i0 + 1) l (bif Nat.blt i0 (i0 + (i + 1)) then puts σ q.1 else σ)) p.1
    rw [hb1, hb0]
    have e : i0 + (i + 1) = i0 + 1 + i := by omega
    rw [e]
    exact tau_step l (i0 + 1) i (by simpa using h)

/-- How many of the first n are not told. -/
def cnt (X : Nat → Bool) : Nat → Nat
  | 0 => 0
  | n + 1 => cnt X n + (bif X n then 0 else 1)

theorem cnt_zero {X : Nat → Bool} : ∀ {n : Nat}, cnt X n = 0 → ∀ i, i < n → X i = true
  | 0, _, i, hi => by omega
  | n + 1, h, i, hi => by
    simp only [cnt] at h
    by_cases hin : i = n
    · subst hin
      cases hx : X i
      · rw [hx] at h; simp at h
      · rfl
    · exact cnt_zero (n := n) (by omega) i (by omega)

theorem cnt_congr {X Y : Nat → Bool} : ∀ {n : Nat}, (∀ i, i < n → X i = Y i) → cnt X n = cnt Y n
  | 0, _ => rfl
  | n + 1, h => by simp only [cnt]; rw [cnt_congr (n := n) fun i hi => h i (by omega), h n (by omega)]

theorem cnt_less {X Y : Nat → Bool} {i : Nat} (hx : X i = false) (hy : Y i = true) (he : ∀ j, j ≠ i → Y j = X j) : ∀ {n : Nat}, i < n → cnt Y n + 1 = cnt X n
  | 0, h => by omega
  | n + 1, h => by
    simp only [cnt]
    by_cases hin : i = n
    · subst hin
      rw [hx, hy, cnt_congr (n := i) fun j hj => he j (by omega)]
      simp
    · have := cnt_less hx hy he (n := n) (by omega)
      rw [he n (by omega)]
      omega

def told (listed : Array Bool) (i : Nat) : Bool := listed.getD i false

theorem told_set {listed : Array Bool} {i : Nat} (hi : i < listed.size) (j : Nat) : told (listed.setIfInBounds i true) j = (if j = i then true else told listed j) := by
  unfold told
  by_cases h : j = i
  · subst h
    simp [Array.getD_eq_getD_getElem?, hi]
  · simp [Array.getD_eq_getD_getElem?, h, Array.getElem?_setIfInBounds, Ne.symm h]

section
variable {E : Env} {P : Program} {ops : Array Oper} {Q : Exit → Act → World → Prop}

theorem mem_ready {listed : Array Bool} {i : Nat} (hs : listed.size = ops.size) : i ∈ Region.ready .any ops listed ↔
    i < ops.size ∧ told listed i = false ∧ ∀ o, ops[i]? = some o → ∀ e, e ∈ o.after.toList → Region.binds .any e = true → told listed e.on = true := by
  unfold Region.ready
  rw [List.mem_filter, List.mem_range]
  constructor
  · rintro ⟨hi, h⟩
    simp only [Bool.and_eq_true, Bool.not_eq_true'] at h
    have hl : i < listed.size := by omega
    refine ⟨hi, ?_, ?_⟩
    · have := h.1
      simp only [told, Array.getD_eq_getD_getElem?, Array.getElem?_eq_getElem hl, Option.getD_some] at this ⊢
      exact this
    · intro o ho e he hb
      have h2 := h.2
      rw [ho] at h2
      simp only [Option.map_some, Option.getD_some, Array.all_eq_true'] at h2
      have := h2 e (by simpa using he)
      rw [hb] at this
      simpa [told] using this
  · rintro ⟨hi, ht, h⟩
    have hl : i < listed.size := by omega
    refine ⟨hi, ?_⟩
    simp only [Bool.and_eq_true, Bool.not_eq_true']
    refine ⟨?_, ?_⟩
    · simp only [told, Array.getD_eq_getD_getElem?, Array.getElem?_eq_getElem hl, Option.getD_some] at ht ⊢
      exact ht
    · rw [Array.getElem?_eq_getElem hi]
      simp only [Option.map_some, Option.getD_some, Array.all_eq_true']
      intro e he
      cases hb : Region.binds .any e
      · rfl
      · have := h _ (Array.getElem?_eq_getElem hi) e (by simpa using he) hb
        simpa [told] using this

/-- One order of the text serves every order. -/
theorem any_order (R : Sg → Act → World → Prop)
    (hstep : ∀ (i : Nat) (o : Oper) (σ : Sg) (a : Act) (w : World) (ws : List (Nat × KV)) (rs : List Nat), ops[i]? = some o → R σ a w → (lopG E ops o).eval σ [] = some (ws, rs) →
      ∀ K : Act → World → Prop, (∀ a' w', R (puts σ ws) a' w' → K a' w') → wpOp P ops Q i K a w)
    {st : List (List (Nat × KV) × List Nat)} {σ0 σn : Sg} (hc : Chain E ops ops.toList σ0 st σn)
    (hok : okLog ops.toList (st.map fun p => (p.1.map (·.1), p.2)) = true) (hQ : ∀ a w, R σn a w → Q .normal a w) :
    ∀ (fuel : Nat) (listed : Array Bool) (a : Act) (w : World), listed.size = ops.size → R (tau (told listed) 0 st σ0) a w → Closed ops.toList (told listed) → cnt (told listed) ops.size ≤ fuel →
      wpAny P .any ops Q fuel listed a w := by
  obtain ⟨hlen, htau, hch⟩ := chain_tau E ops ops.toList 0 hc
  simp only [okLog, Bool.and_eq_true] at hok
  obtain ⟨hback, hapart⟩ := hok
  have hn : st.length = ops.size := by simpa using hlen
  have allOf : ∀ (X : Nat → Bool) (a : Act) (w : World), (∀ i, i < ops.size → X i = true) → R (tau X 0 st σ0) a w → Q .normal a w := by
    intro X a w hX hR
    refine hQ a w ?_
    have e : tau X 0 st σ0 = σn := by
      rw [← htau]
      funext k
      refine tau_agree X _ st 0 (fun j p hj _ => ?_) rfl
      have : j < st.length := by
        rcases Nat.lt_or_ge j st.length with h | h
        · exact h
        · rw [List.getElem?_eq_none h] at hj; cases hj
      exact hX (0 + j) (by omega)
    rw [← e]; exact hR
  have ready_nil : ∀ listed : Array Bool, listed.size = ops.size → Region.ready .any ops listed = [] → ∀ i, i < ops.size → told listed i = true := by
    intro listed hs hnil i
    induction i using Nat.strongRecOn with
    | _ i ih =>
      intro hi
      cases ht : told listed i
      · exfalso
        have : i ∈ Region.ready .any ops listed := (mem_ready hs).2 ⟨hi, ht, fun o ho e he hb => by
          have := back_spec ops.toList 0 hback i o (by simpa using ho) e he hb
          exact ih e.on (by omega) (by omega)⟩
        rw [hnil] at this
        simp at this
      · rfl
  intro fuel
  induction fuel with
  | zero =>
    intro listed a w hs hR hcl hcnt
    have hall := cnt_zero (X := told listed) (n := ops.size) (by omega)
    refine ⟨?_, allOf _ a w hall hR⟩
    cases hr : Region.ready .any ops listed with
    | nil => rfl
    | cons i l =>
      have hi : i ∈ Region.ready .any ops listed := by rw [hr]; exact List.mem_cons_self ..
      obtain ⟨h1, h2, _⟩ := (mem_ready hs).1 hi
      rw [hall i h1] at h2; cases h2
  | succ fuel ih =>
    intro listed a w hs hR hcl hcnt
    refine ⟨fun hnil => allOf _ a w (ready_nil listed hs hnil) hR, fun i hi => ?_⟩
    obtain ⟨hil, hti, hdir⟩ := (mem_ready hs).1 hi
    have ho : ops[i]? = some ops[i] := Array.getElem?_eq_getElem hil
    obtain ⟨p, hp, hev⟩ := hch i ops[i] (by simpa using ho)
    -- writers of a key that this one reads or writes
    have anc_some : ∀ m, m < ops.size → ∃ a, (ancs ops.toList [])[m]? = some a := by
      intro m hm
      have hl : ∀ (l : List Oper) (acc : List Nat), (ancs l acc).length = acc.length + l.length := by
        intro l
        induction l with
        | nil => intro acc; rfl
        | cons o l ih => intro acc; simp only [ancs, ih, List.length_append, List.length_cons, List.length_nil]; omega
      have : m < (ancs ops.toList []).length := by rw [hl]; simpa using hm
      exact ⟨_, List.getElem?_eq_getElem this⟩
    have lgAt : ∀ (m : Nat) (q : List (Nat × KV) × List Nat), st[m]? = some q → (st.map fun p => (p.1.map (·.1), p.2))[m]? = some (q.1.map (·.1), q.2) := by
      intro m q hm; simp [hm]
    have mlt : ∀ (m : Nat) (q : List (Nat × KV) × List Nat), st[m]? = some q → m < ops.size := by
      intro m q hm
      rcases Nat.lt_or_ge m st.length with h | h
      · omega
      · rw [List.getElem?_eq_none h] at hm; cases hm
    have hspec : ∀ (m : Nat) (o : Oper), ops.toList[m]? = some o → (∀ e, e ∈ o.after.toList → Region.binds .any e = true → told listed e.on = true) → ∀ a, (ancs ops.toList [])[m]? = some a → ∀ j, bit a j = true → told listed j = true := by
      intro m o hm hd a ha j hj
      exact ancs_spec (X := told listed) ops.toList [] [] rfl (by simpa using hcl) (fun i hi => by simp at hi) m o (by simpa using hm) hd a ha j hj
    have key : ∀ (m : Nat) (q : List (Nat × KV) × List Nat) (k : Nat), st[m]? = some q → m ≠ i → k ∈ q.1.map (·.1) → (k ∈ p.1.map (·.1) ∨ k ∈ p.2) → told listed m = Nat.blt m i := by
      intro m q k hm hmi hk hpk
      rcases Nat.lt_or_gt_of_ne hmi with h | h
      · -- m before i
        obtain ⟨a, ha⟩ := anc_some i hil
        have hb : Nat.blt m i = true := Nat.blt_eq.mpr h
        rw [hb]
        rcases apartAll_spec ops.toList.length hapart i m h (by simpa using hil) _ _ _ _ a (lgAt i p hp) (lgAt m q hm) ha with hbit | ⟨d1, d2, d3⟩
        · exact hspec i ops[i] (by simpa using ho) (fun e he hbd => hdir _ ho e he hbd) a ha m hbit
        · rcases hpk with hpk | hpk
          · exact absurd hk (meets_false d1 k hpk)
          · exact absurd hk (meets_false d3 k hpk)
      · have hb : Nat.blt m i = false := by
          cases hb : Nat.blt m i
          · rfl
          · have := Nat.blt_eq.mp hb; omega
        rw [hb]
        cases ht : told listed m
        · rfl
        · exfalso
          have hml := mlt m q hm
          obtain ⟨a, ha⟩ := anc_some m hml
          have hom : ops.toList[m]? = some ops[m] := by simp [hml]
          rcases apartAll_spec ops.toList.length hapart m i h (by simpa using hml) _ _ _ _ a (lgAt m q hm) (lgAt i p hp) ha with hbit | ⟨d1, d2, d3⟩
          · have := hspec m ops[m] hom (fun e he hbd => hcl m ops[m] hom ht e he hbd) a ha i hbit
            rw [hti] at this; cases this
          · rcases hpk with hpk | hpk
            · exact absurd hpk (meets_false d1 k hk)
            · exact absurd hpk (meets_false d2 k hk)
    have hblt : Nat.blt i i = false := by
      cases hb : Nat.blt i i
      · rfl
      · have := Nat.blt_eq.mp hb; omega
    have hev' : (lopG E ops ops[i]).eval (tau (told listed) 0 st σ0) [] = some p := by
      refine T.eval_local _ (a := p.1) (rs' := p.2) hev fun k hk => ?_
      refine tau_agree _ _ st 0 (fun m q hm hkm => ?_) rfl
      by_cases hmi : m = i
      · subst hmi
        simp only [Nat.zero_add]
        rw [hti, hblt]
      · simp only [Nat.zero_add]
        exact key m q k hm hmi hkm (.inr hk)
    have hsz : i < listed.size := by omega
    have hst : puts (tau (told listed) 0 st σ0) p.1 = tau (told (listed.setIfInBounds i true)) 0 st σ0 := by
      funext k
      by_cases hk : k ∈ p.1.map (·.1)
      · rw [puts_mem (σ' := tau (fun n => Nat.blt n (0 + i)) 0 st σ0) hk, ← tau_step st 0 i hp]
        refine tau_agree _ _ st 0 (fun m q hm hkm => ?_) rfl
        simp only [Nat.zero_add]
        rw [told_set hsz]
        by_cases hmi : m = i
        · subst hmi; simp
        · rw [if_neg hmi, key m q k hm hmi hkm (.inl hk)]
          cases hb : Nat.blt m i
          · cases hb' : Nat.blt m (i + 1)
            · rfl
            · have h1 := Nat.blt_eq.mp hb'
              have h2 : ¬ m < i := fun h => by rw [Nat.blt_eq.mpr h] at hb; cases hb
              omega
          · exact Nat.blt_eq.mpr (by have := Nat.blt_eq.mp hb; omega)
      · rw [puts_not hk]
        refine tau_agree _ _ st 0 (fun m q hm hkm => ?_) rfl
        simp only [Nat.zero_add]
        rw [told_set hsz, if_neg]
        rintro rfl
        rw [hm] at hp; cases hp
        exact hk hkm
    refine hstep i ops[i] _ a w p.1 p.2 ho hR hev' _ fun a' w' hR' => ?_
    rw [hst] at hR'
    refine ih (listed.setIfInBounds i true) a' w' (by simpa using hs) hR' ?_ ?_
    · intro m o hm hx e he hb
      rw [told_set hsz] at hx ⊢
      by_cases hei : e.on = i
      · rw [if_pos hei]
      · rw [if_neg hei]
        by_cases hmi : m = i
        · subst hmi
          exact hdir o (by simpa using hm) e he hb
        · rw [if_neg hmi] at hx
          exact hcl m o hm hx e he hb
    · have := cnt_less (X := told listed) (Y := told (listed.setIfInBounds i true)) hti (by rw [told_set hsz]; simp) (fun j hj => by rw [told_set hsz, if_neg hj]) hil
      omega
end

end Rg
