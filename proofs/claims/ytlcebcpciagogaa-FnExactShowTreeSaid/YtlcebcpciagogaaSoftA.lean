/-
  SoftA: the abstract interpreter. A Go body is run over typed trees (no heap): what is owned, what is borrowed and what is aliased is tracked by keys.
  Nothing is proved here; SoftB.. proves that what this interpreter answers is what the model's call comes to.
-/
import Derived.Laws.AppendOwn
import Derived.KernelRfl
set_option linter.constructorNameAsVariable false
set_option linter.unusedVariables false
set_option linter.unusedSimpArgs false
namespace Go.Soft

/-! ### the data of the program -/
structure Slot where
  Name : ByteArray
  Ino : Int
structure Inode where
  Kind : Int
  Links : Int
  Ptrs : List Int
structure Block where
  Dir : Bool
  Slots : List Slot
  Text : ByteArray
structure Dep where
  Id : Int
  Kind : Int
  Ino : Int
  Ptr : Int
  Block : Int
  Slot : Int
  Name : ByteArray
  Bits : Bool
  Other : Bool
  After : Int
  Blocks : List Int
structure Node where
  Path : ByteArray
  Dir : Bool
  Head : ByteArray
  Tail : ByteArray
structure Event where
  Kind : Int
  Path : ByteArray
  To : ByteArray
  At : Int
  Text : ByteArray

inductive Ty | int | bool | byte | str | slot | inode | block | dep | node | event

abbrev El : Ty → Type
  | .int => Int | .bool => Bool | .byte => UInt8 | .str => ByteArray | .slot => Slot | .inode => Inode
  | .block => Block | .dep => Dep | .node => Node | .event => Event

/-- the content of one cell -/
inductive Ct
  | u | b (x : Bool) | i (k : IntKind) (n : Int) | s (x : ByteArray) | l (τ : Ty) (xs : List (El τ))

def dflt : (τ : Ty) → El τ
  | .int => 0 | .bool => false | .byte => 0 | .str => .empty | .slot => ⟨.empty, 0⟩ | .inode => ⟨0, 0, []⟩ | .block => ⟨false, [], .empty⟩
  | .dep => ⟨0, 0, 0, 0, 0, 0, .empty, false, false, 0, []⟩ | .node => ⟨.empty, false, .empty, .empty⟩ | .event => ⟨0, .empty, .empty, 0, .empty⟩

def cells : (τ : Ty) → El τ → List Ct
  | .int, n => [.i .i64 n]
  | .bool, x => [.b x]
  | .byte, x => [.i .u8 (x.toNat : Int)]
  | .str, x => [.s x]
  | .slot, x => [.s x.Name, .i .i64 x.Ino]
  | .inode, x => [.i .i64 x.Kind, .i .i64 x.Links, .l .int x.Ptrs]
  | .block, x => [.b x.Dir, .l .slot x.Slots, .s x.Text]
  | .dep, x => [.i .i64 x.Id, .i .i64 x.Kind, .i .i64 x.Ino, .i .i64 x.Ptr, .i .i64 x.Block, .i .i64 x.Slot, .s x.Name, .b x.Bits, .b x.Other, .i .i64 x.After, .l .int x.Blocks]
  | .node, x => [.s x.Path, .b x.Dir, .s x.Head, .s x.Tail]
  | .event, x => [.i .i64 x.Kind, .s x.Path, .s x.To, .i .i64 x.At, .s x.Text]

def sz : Ty → Nat
  | .int => 1 | .bool => 1 | .byte => 1 | .str => 1 | .slot => 2 | .inode => 3 | .block => 3 | .dep => 11 | .node => 4 | .event => 5

/-- the element of these cells; a byte's number must be one of 0 .. 255 (the flag) -/
def mkEl : (τ : Ty) → List Ct → Option (El τ)
  | .int, [.i .i64 n] => some n
  | .bool, [.b x] => some x
  | .byte, [.i .u8 n] => some (UInt8.ofNat n.toNat)
  | .str, [.s x] => some x
  | .slot, [.s n, .i .i64 i] => some ⟨n, i⟩
  | .inode, [.i .i64 k, .i .i64 l, .l .int p] => some ⟨k, l, p⟩
  | .block, [.b d, .l .slot s, .s t] => some ⟨d, s, t⟩
  | .dep, [.i .i64 a, .i .i64 b, .i .i64 c, .i .i64 d, .i .i64 e, .i .i64 f, .s g, .b h, .b i, .i .i64 j, .l .int k] => some ⟨a, b, c, d, e, f, g, h, i, j, k⟩
  | .node, [.s a, .b b, .s c, .s d] => some ⟨a, b, c, d⟩
  | .event, [.i .i64 a, .s b, .s c, .i .i64 d, .s e] => some ⟨a, b, c, d, e⟩
  | _, _ => none

/-- the check that goes with mkEl -/
def okEl : Ty → List Ct → Bool
  | .byte, [.i .u8 n] => decide (0 ≤ n) && decide (n < 256)
  | _, _ => true

/-- has the type cells that are slices? -/
def Ty.isByte : Ty → Bool
  | .byte => true
  | _ => false
def Ty.deep : Ty → Bool
  | .inode | .block | .dep => true
  | _ => false

/-! ### abstract values -/
/-- a cell's value: what is known (b, i, s), a slice (nl: the nil slice; sw, sl: a row, a part of it; nw, ns: what a row's cell has, a part of it), an address
    (pv: into a variable; pe: into a row's element; pn: into an element of what a row's cell has), a function value; un: not known -/
inductive Cv
  | un | b (x : Bool) | i (k : IntKind) (n : Int) | s (x : ByteArray)
  | nl (τ : Ty)
  | sw (r : Nat) | sl (r off len : Nat)
  | nw (r e c : Nat) | ns (r e c off len : Nat)
  | pv (v c : Nat) | pe (r e c : Nat) | pn (r e c k d : Nat)
  | fn (f : Nat) (caps : List Nat)

/-- a temporary's value: a cell, a struct, a tuple; g: a value that is there when q holds (behind && and ||) -/
inductive AV
  | c (x : Cv) | a (l : List Cv) | t (l : List (Bool × List Cv))
  | g (p : List (Nat × Bool)) (q : Bool) (v : AV)

/-- the array behind slices. ow: 1 borrowed (it, and what its cells point to, is as it is as long as the function runs), 2 owned (what its cells point to: as 1),
    3 frozen (nobody will write to it, or to what its cells point to), 4 owned (what its cells point to: frozen), 5 owned with what its cells point to -/
structure Row where
  τ : Ty
  xs : List (El τ)
  ow : Nat

structure St where
  tm : List (Nat × AV)
  vs : List (Nat × List Cv)
  rs : List (Nat × Row)

/-- is the array itself owned? -/
def ownK (w : Nat) : Bool := match w with | 2 => true | 4 => true | 5 => true | _ => false
/-- may a row of kind a be taken for one of kind d? -/
def leK (d a : Nat) : Bool := match d with
  | 1 => true
  | 2 => ownK a
  | 3 => (match a with | 3 => true | 4 => true | 5 => true | _ => false)
  | 4 => (match a with | 4 => true | 5 => true | _ => false)
  | 5 => (match a with | 5 => true | _ => false)
  | _ => false
/-- is it a kind that is handed over? -/
def hdK (w : Nat) : Bool := match w with | 3 => true | 4 => true | 5 => true | _ => false
/-- of what kind may a row be that has what is not owned -/
def lvK (w : Nat) : Nat := match w with | 3 => 4 | _ => 2
/-- frozen -/
def fzK (w : Nat) : Nat := match w with | 1 => 1 | 2 => 1 | _ => 3

def lk {α : Type} : List (Nat × α) → Nat → Option α
  | [], _ => none
  | (k, v) :: l, n => match Nat.beq k n with
    | true => some v
    | false => lk l n
def rmv {α : Type} (n : Nat) : List (Nat × α) → List (Nat × α)
  | [] => []
  | (k, v) :: l => match Nat.beq k n with
    | true => rmv n l
    | false => (k, v) :: rmv n l
def repK {α : Type} (n : Nat) (v : α) : List (Nat × α) → List (Nat × α)
  | [] => []
  | (k, u) :: l => match Nat.beq k n with
    | true => (k, v) :: repK n v l
    | false => (k, u) :: repK n v l
/-- in its place, where it is; else in front -/
def put {α : Type} (l : List (Nat × α)) (n : Nat) (v : α) : List (Nat × α) :=
  match lk l n with
  | some _ => repK n v l
  | none => (n, v) :: l
def hasN (n : Nat) : List Nat → Bool
  | [] => false
  | k :: l => match Nat.beq k n with
    | true => true
    | false => hasN n l
def nth {α : Type} : List α → Nat → Option α
  | [], _ => none
  | x :: _, 0 => some x
  | _ :: l, n + 1 => nth l n
def fmap {α β : Type} (f : α → β) : List α → List β
  | [] => []
  | x :: l => f x :: fmap f l
def isPre : List (Nat × Bool) → List (Nat × Bool) → Bool
  | [], _ => true
  | _ :: _, [] => false
  | (a, x) :: l, (b, y) :: m => Nat.beq a b && ((match x, y with | true, true | false, false => true | _, _ => false) && isPre l m)

/-! ### the program's types -/
/-- the program, and which of its types are the slices' elements; eqs: the structs that are compared; nt: how many temporaries there are -/
structure Ctx where
  P : Program
  ty : List (Nat × Ty)
  id : Ty → TypeId
  eqs : List Nat
  nt : Nat
def Ctx.at (X : Ctx) (f : Func) : Ctx := { X with nt := f.ntmps }
def Ctx.tyOf (X : Ctx) (t : TypeId) : Option Ty := lk X.ty t
def isAg (P : Program) (t : TypeId) : Bool := match P.underlying t with | some (.struct _) | some (.array ..) => true | _ => false
def szOf (P : Program) (t : TypeId) : Nat := match P.info? t with | some i => i.size | none => 0
def ldOk (P : Program) (t : TypeId) : Bool := match P.underlying t with | some (.struct _) => true | some (.array ..) => true | some _ => Nat.beq (szOf P t) 1 | none => false
def fOff (P : Program) (t : TypeId) (f : Nat) : Option Nat := match P.underlying t with | some (.struct fs) => (match fs[f]? with | some x => some x.offset | none => none) | _ => none
def fTy (P : Program) (t : TypeId) (f : Nat) : TypeId := match P.underlying t with | some (.struct fs) => (match fs[f]? with | some x => x.type | none => 0) | _ => 0
def elId (P : Program) (t : TypeId) : Option TypeId := match P.underlying t with | some (.slice e) => some e | _ => none
def Ctx.elTy (X : Ctx) (t : TypeId) : Option Ty := match elId X.P t with | some e => X.tyOf e | none => none
/-- the element type of a slice that is made here -/
def Ctx.elOwn (X : Ctx) (t : TypeId) : Option Ty := match elId X.P t with
  | some e => match X.tyOf e with
    | some τ => match Nat.beq (X.id τ) e with | true => some τ | false => none
    | none => none
  | none => none
/-- a constant, of a type -/
def Ctx.cst (X : Ctx) (t : TypeId) : Value → Cv
  | .bool b => .b b
  | .int k n => .i k n
  | .string s => .s s
  | .slice none 0 0 => match X.elTy t with | some τ => .nl τ | none => .un
  | _ => .un
/-- the cells of a new variable of a type -/
def Ctx.zeros (X : Ctx) : Nat → TypeId → Option (List Cv)
  | 0, _ => none
  | d + 1, t => match X.P.underlying t with
    | some .bool => some [.b false]
    | some (.int k) => some [.i k 0]
    | some .string => some [.s .empty]
    | some (.slice e) => match X.tyOf e with | some τ => some [.nl τ] | none => some [.un]
    | some (.struct fs) => zs (X.zeros d) fs.toList
    | _ => none
  where zs (f : TypeId → Option (List Cv)) : List Field → Option (List Cv)
  | [] => some []
  | x :: l => match f x.type, zs f l with
    | some a, some b => some (a ++ b)
    | _, _ => none

def kEq : IntKind → IntKind → Bool
  | .i8, .i8 | .i16, .i16 | .i32, .i32 | .i64, .i64 | .u8, .u8 | .u16, .u16 | .u32, .u32 | .u64, .u64 => true
  | _, _ => false
/-- do these cells stand for these values? -/
def zEq : Cv → Value → Bool
  | .un, .agg _ => false
  | .un, .tuple _ => false
  | .un, _ => true
  | .b false, .bool false => true
  | .i k n, .int k' n' => kEq k k' && (match n, n' with | .ofNat 0, .ofNat 0 => true | _, _ => false)
  | .s x, .string y => Nat.beq x.size 0 && Nat.beq y.size 0
  | .nl _, .slice none 0 0 => true
  | _, _ => false
def zEqs : List Cv → List Value → Bool
  | [], [] => true
  | x :: l, y :: m => zEq x y && zEqs l m
  | _, _ => false
def plAll (P : Program) : List Field → Bool
  | [] => true
  | f :: l => match P.info? f.type with | some _ => plAll P l | none => false
/-- have all fields a type? -/
def plOk (P : Program) (t : TypeId) : Bool := match P.underlying t with | some (.struct fs) => plAll P fs.toList | _ => false
def Ctx.zero (X : Ctx) (t : TypeId) : Option (List Cv) := match X.zeros 8 t, X.P.info? t with
  | some cs, some i => match i.zero with
    | some z => match zEqs cs z.cells.toList with | true => some cs | false => none
    | none => none
  | _, _ => none

def St.get (s : St) (t : Nat) : AV := match lk s.tm t with | some v => v | none => .c .un
def St.put (s : St) (d : Option Nat) (v : AV) : St := match d with | some d => { s with tm := (d, v) :: s.tm } | none => s

def Ctx.opnd (X : Ctx) (s : St) (p : List (Nat × Bool)) (ty : TypeId) : Operand → AV
  | .tmp t => match s.get t with
    | .g p' _ v => match isPre p' p with | true => v | false => .c .un
    | v => v
  | .const v => .c (X.cst ty v)
  | .func f => .c (.fn f [])
  | .global _ => .c .un

/-! ### looking -/
/-- memory, by keys -/
structure Lk where
  r : Nat → Option Row
  v : Nat → Option (List Cv)
def St.lk (s : St) : Lk := ⟨Soft.lk s.rs, Soft.lk s.vs⟩

def cvOf (r e : Nat) (c : Nat) : Ct → Cv
  | .u => .un | .b x => .b x | .i k n => .i k n | .s x => .s x | .l _ _ => .nw r e c
def cvsOf (r e : Nat) : Nat → List Ct → List Cv
  | _, [] => []
  | c, x :: l => cvOf r e c x :: cvsOf r e (c + 1) l
def Row.cs (row : Row) (e : Nat) : List Ct := cells row.τ (row.xs.getD e (dflt row.τ))

/-- what is seen of a slice -/
inductive Vw
  | no | w (τ : Ty) (xs : List (El τ)) | p (τ : Ty) (xs : List (El τ)) (off len : Nat)
def Lk.vw (m : Lk) : Cv → Vw
  | .nl τ => .w τ []
  | .sw r => match m.r r with | some row => .w row.τ row.xs | none => .no
  | .sl r off len => match m.r r with | some row => .p row.τ row.xs off len | none => .no
  | .nw r e c => match m.r r with
    | some row => match nth (row.cs e) c with | some (.l τ ys) => .w τ ys | _ => .no
    | none => .no
  | .ns r e c off len => match m.r r with
    | some row => match nth (row.cs e) c with | some (.l τ ys) => .p τ ys off len | _ => .no
    | none => .no
  | _ => .no
def sub {α : Type} (xs : List α) (off len : Nat) : List α := (xs.drop off).take len
def Vw.ct : Vw → Option Ct
  | .no => none
  | .w τ xs => some (.l τ xs)
  | .p τ xs off len => some (.l τ (sub xs off len))
def Vw.len : Vw → Option Nat
  | .no => none
  | .w _ xs => some xs.length
  | .p _ _ _ len => some len
def Lk.ct (m : Lk) : Cv → Option Ct
  | .un => some .u | .b x => some (.b x) | .i k n => some (.i k n) | .s x => some (.s x)
  | c => (m.vw c).ct
def Lk.cts (m : Lk) : List Cv → Option (List Ct)
  | [] => some []
  | c :: l => match m.ct c with
    | some x => match m.cts l with | some y => some (x :: y) | none => none
    | none => none
/-- the cells behind an address -/
def Lk.from (m : Lk) : Cv → Option (List Cv)
  | .pv v c => match m.v v with | some cs => some (cs.drop c) | none => none
  | .pe r e c => match m.r r with | some row => some ((cvsOf r e 0 (row.cs e)).drop c) | none => none
  | .pn r e c k d => match m.vw (.nw r e c) with
    | .w τ ys => match τ.deep with
      | true => none
      | false => some ((cvsOf 0 0 0 (cells τ (ys.getD k (dflt τ)))).drop d)
    | _ => none
  | _ => none

/-! ### what an operation changes -/
/-- mv: rows that are a row's cell now (row, of which row, element, cell); kr, ke, kn, kv: rows all of whose references die, all but those to the whole, those that go
    through a cell of theirs; variables whose pointers die; rs, vs: rows and variables as they are now -/
structure Dl where
  mv : List (Nat × (Nat × Nat × Nat))
  kr : List Nat
  ke : List Nat
  kn : List Nat
  kv : List Nat
  rs : List (Nat × Option Row)
  vs : List (Nat × List Cv)
def Dl.z : Dl := ⟨[], [], [], [], [], [], []⟩

def Cv.row : Cv → Option Nat
  | .sw r | .sl r _ _ | .nw r _ _ | .ns r _ _ _ _ | .pe r _ _ | .pn r _ _ _ _ => some r
  | _ => none
def Cv.inner : Cv → Bool
  | .nw .. | .ns .. | .pn .. => true
  | _ => false
def anyN (l m : List Nat) : Bool := match l with
  | [] => false
  | x :: l => match hasN x m with | true => true | false => anyN l m
/-- what a reference is behind an operation -/
def Dl.map (δ : Dl) (x : Cv) : Cv := match x with
  | .pv v _ => match hasN v δ.kv with | true => .un | false => x
  | .fn _ caps => match anyN caps δ.kv with | true => .un | false => x
  | .sw r => match Soft.lk δ.mv r with
    | some (d, e, c) => .nw d e c
    | none => match hasN r δ.kr with | true => .un | false => x
  | .sl r o n => match Soft.lk δ.mv r with
    | some (d, e, c) => .ns d e c o n
    | none => match hasN r δ.kr, hasN r δ.ke with | false, false => x | _, _ => .un
  | .pe r k a => match Soft.lk δ.mv r with
    | some (d, e, c) => .pn d e c k a
    | none => match hasN r δ.kr, hasN r δ.ke with | false, false => x | _, _ => .un
  | .nw r _ _ | .ns r _ _ _ _ | .pn r _ _ _ _ => match Soft.lk δ.mv r with
    | some _ => .un
    | none => match hasN r δ.kr, hasN r δ.ke, hasN r δ.kn with | false, false, false => x | _, _, _ => .un
  | x => x
def mapV (f : Cv → Cv) : AV → AV
  | .c x => .c (f x)
  | .a l => .a (l.map f)
  | .t l => .t (l.map fun p => (p.1, p.2.map f))
  | .g p q v => .g p q (mapV f v)
def asgR (l : List (Nat × Row)) : List (Nat × Option Row) → List (Nat × Row)
  | [] => l
  | (k, some row) :: m => asgR (Soft.put l k row) m
  | (k, Option.none) :: m => asgR (rmv k l) m
def asgV (l : List (Nat × List Cv)) : List (Nat × List Cv) → List (Nat × List Cv)
  | [] => l
  | (k, cs) :: m => asgV (Soft.put l k cs) m
/-- are there references that die? -/
def Dl.quiet (δ : Dl) : Bool := match δ.mv, δ.kr, δ.ke, δ.kn, δ.kv with
  | [], [], [], [], [] => true
  | _, _, _, _, _ => false
def St.app (s : St) (δ : Dl) : St := match δ.quiet with
  | true => ⟨s.tm, asgV s.vs δ.vs, asgR s.rs δ.rs⟩
  | false => ⟨s.tm.map fun p => (p.1, mapV δ.map p.2), asgV (s.vs.map fun p => (p.1, p.2.map δ.map)) δ.vs, asgR s.rs δ.rs⟩

/-! ### storing into a row: what is handed over, what is shared -/
/-- the content of a cell that goes into a row; the row that is handed over with it; the row that is shared now, and of which kind it is then; the greatest kind that the row may have then -/
structure Ab where
  ct : Ct
  mv : Option Nat
  sh : Option (Nat × Nat)
  lv : Nat
def Lk.absorb (m : Lk) (x : Cv) : Option Ab :=
  match x with
  | .b y => some ⟨.b y, none, none, 5⟩ | .i k n => some ⟨.i k n, none, none, 5⟩ | .s y => some ⟨.s y, none, none, 5⟩
  | .nl τ => match τ.deep with | true => none | false => some ⟨.l τ [], none, none, 5⟩
  | .sw r => match m.r r with
    | some row => match row.τ.deep with
      | true => none
      | false => match ownK row.ow with
        | true => some ⟨.l row.τ row.xs, some r, none, 5⟩
        | false => some ⟨.l row.τ row.xs, none, none, lvK row.ow⟩
    | none => none
  | x => match (m.vw x).ct, x.row with
    | some (.l τ y), some r => match τ.deep, m.r r with
      | false, some row => match x.inner with
        | true => match row.ow with
          | 5 => some ⟨.l τ y, none, some (r, 4), 4⟩
          | 4 => some ⟨.l τ y, none, none, 4⟩
          | 3 => some ⟨.l τ y, none, none, 4⟩
          | _ => some ⟨.l τ y, none, none, 2⟩
        | false => match ownK row.ow with
          | true => match leK 4 row.ow with
            | true => some ⟨.l τ y, none, some (r, 3), 4⟩
            | false => none
          | false => some ⟨.l τ y, none, none, lvK row.ow⟩
      | _, _ => none
    | _, _ => none
/-- the contents; what is handed over (row, element and cell of its new place); what is shared now -/
structure Abs where
  cts : List Ct
  mv : List (Nat × (Nat × Nat))
  sh : List (Nat × Nat)
  lv : Nat
def Lk.absorbs (m : Lk) (e : Nat) : Nat → List Cv → Option Abs
  | _, [] => some ⟨[], [], [], 5⟩
  | c, x :: l => match m.absorb x, m.absorbs e (c + 1) l with
    | some a, some b => some ⟨a.ct :: b.cts, (match a.mv with | some r => (r, (e, c)) :: b.mv | none => b.mv), (match a.sh with | some p => p :: b.sh | none => b.sh), min a.lv b.lv⟩
    | _, _ => none
def nodupN : List Nat → Bool
  | [] => true
  | x :: l => match hasN x l with | true => false | false => nodupN l
def disjN : List Nat → List Nat → Bool
  | [], _ => true
  | x :: l, m => match hasN x m with | true => false | false => disjN l m
def keys {α : Type} : List (Nat × α) → List Nat
  | [] => []
  | (k, _) :: l => k :: keys l
/-- the rows that are shared now, each at the least of what is asked -/
def Lk.share (m : Lk) : List (Nat × Nat) → List (Nat × Option Row)
  | [] => []
  | (r, w) :: l => match m.r r with
    | some row => (r, some { row with ow := w }) :: m.share l
    | none => m.share l
def gone : List (Nat × (Nat × Nat)) → List (Nat × Option Row)
  | [] => []
  | (r, _) :: l => (r, none) :: gone l
/-! ### one operation -/
/-- no: not served; r0, r: a value (when the check holds); w0, w: a value, and a change -/
inductive Out | no | r0 (v : AV) | r (p : Bool) (v : AV) | w0 (v : AV) (δ : Dl) | w (p : Bool) (v : AV) (δ : Dl)

def mkA (ag : Bool) (l : List Cv) : AV := match ag with
  | true => .a l
  | false => match l with | [x] => .c x | _ => .c .un
def AV.cells : AV → Option (List Cv)
  | .c .un => none
  | .c x => some [x]
  | .a l => some l
  | _ => none
def u8 : AV := .t []

def cmpI (op : BinOp) (a b : Int) : Option Bool := match op with
  | .eql => some (a == b) | .neq => some (!(a == b)) | .lss => some (decide (a < b)) | .leq => some (decide (a ≤ b)) | .gtr => some (decide (b < a)) | .geq => some (decide (b ≤ a))
  | _ => none
def sLt (a b : ByteArray) : Bool := Op.bytesLess a.toList b.toList
def cmpS (op : BinOp) (a b : ByteArray) : Option Bool := match op with
  | .eql => some (a == b) | .neq => some (!(a == b)) | .lss => some (sLt a b) | .gtr => some (sLt b a) | .leq => some (!(sLt b a)) | .geq => some (!(sLt a b))
  | _ => none
def cvEq : Cv → Cv → Option Bool
  | .b x, .b y => some (x == y)
  | .i _ x, .i _ y => some (x == y)
  | .s x, .s y => some (x == y)
  | _, _ => none
def cvsEq : List Cv → List Cv → Option Bool
  | [], [] => some true
  | x :: l, y :: m => match cvEq x y, cvsEq l m with
    | some a, some b => some (match l with | [] => a | _ => a && b)
    | _, _ => none
  | _, _ => none

def tEq : Ty → Ty → Bool
  | .int, .int | .bool, .bool | .byte, .byte | .str, .str | .slot, .slot | .inode, .inode | .block, .block | .dep, .dep | .node, .node | .event, .event => true
  | _, _ => false

def binO (op : BinOp) (x y : AV) : Out := match x, y with
  | .c (.i k a), .c (.i k' b) => match op with
    | .shl => .r (decide (0 ≤ b)) (.c (.i k (k.wrap (a * 2 ^ (min b.toNat k.bits)))))
    | .shr => .r (decide (0 ≤ b)) (.c (.i k (a.fdiv (2 ^ (min b.toNat k.bits)))))
    | op => match kEq k k' with
      | false => .no
      | true => match op with
        | .add => .r0 (.c (.i k (k.wrap (a + b)))) | .sub => .r0 (.c (.i k (k.wrap (a - b)))) | .mul => .r0 (.c (.i k (k.wrap (a * b))))
        | .quo => .r (!(b == 0)) (.c (.i k (k.wrap (a.tdiv b))))
        | .rem => .r (!(b == 0)) (.c (.i k (a.tmod b)))
        | .and => .r0 (.c (.i k (k.wrap ((BitVec.ofInt k.bits a &&& BitVec.ofInt k.bits b).toNat))))
        | .or => .r0 (.c (.i k (k.wrap ((BitVec.ofInt k.bits a ||| BitVec.ofInt k.bits b).toNat))))
        | .xor => .r0 (.c (.i k (k.wrap ((BitVec.ofInt k.bits a ^^^ BitVec.ofInt k.bits b).toNat))))
        | op => match cmpI op a b with | some c => .r0 (.c (.b c)) | none => .no
  | .c (.s a), .c (.s b) => match op with
    | .add => .r (decide (a.size + b.size ≤ 4611686018427387904)) (.c (.s (a ++ b)))
    | op => match cmpS op a b with | some c => .r0 (.c (.b c)) | none => .no
  | .c (.b a), .c (.b b) => match op with
    | .eql => .r0 (.c (.b (a == b))) | .neq => .r0 (.c (.b (!(a == b)))) | _ => .no
  | .a l, .a m => match op, cvsEq l m with
    | .eql, some c => .r0 (.c (.b c)) | .neq, some c => .r0 (.c (.b (!c))) | _, _ => .no
  | _, _ => .no

def pickA (x : Bool) (u v : AV) : AV := match u, v with
  | .c (.b p), .c (.b q) => .c (.b (bif x then p else q))
  | _, _ => .c .un

def bt (s : ByteArray) (i : Nat) : Nat := (s.data.getD i 0).toNat
def inR (i : Int) (n : Nat) : Bool := decide (0 ≤ i) && decide (i < (n : Int))

def Lk.indexA (m : Lk) (x : Cv) (i : Int) (z : Nat) : Out := match x with
  | .sw r => match m.vw x with | .w τ xs => (match Nat.beq (sz τ) z with | true => .r (inR i xs.length) (.c (.pe r i.toNat 0)) | false => .no) | _ => .no
  | .sl r off len => match m.vw x with | .p τ _ _ _ => (match Nat.beq (sz τ) z with | true => .r (inR i len) (.c (.pe r (off + i.toNat) 0)) | false => .no) | _ => .no
  | .nw r e c => match m.vw x with | .w τ xs => (match Nat.beq (sz τ) z with | true => .r (inR i xs.length) (.c (.pn r e c i.toNat 0)) | false => .no) | _ => .no
  | .ns r e c off len => match m.vw x with | .p τ _ _ _ => (match Nat.beq (sz τ) z with | true => .r (inR i len) (.c (.pn r e c (off + i.toNat) 0)) | false => .no) | _ => .no
  | .nl _ => .r false (.c .un)
  | _ => .no

def addO (x : Cv) (n : Nat) : Cv := match x with
  | .pv v c => .pv v (c + n) | .pe r e c => .pe r e (c + n) | .pn r e c k d => .pn r e c k (d + n) | _ => .un
def repl {α : Type} (l : List α) (c : Nat) (m : List α) : List α := l.take c ++ m ++ l.drop (c + m.length)
def allFlat : List Cv → Bool
  | [] => true
  | .b _ :: l | .i .. :: l | .s _ :: l => allFlat l
  | _ => false
def pvs (r : Nat) : List (Nat × (Nat × Nat)) → List (Nat × (Nat × Nat × Nat))
  | [] => []
  | (k, (e, c)) :: l => (k, (r, e, c)) :: pvs r l

def Lk.store (m : Lk) (x : Cv) (vl : List Cv) : Out := match x with
  | .pv v c => match m.v v with
    | some cs => match Nat.ble (c + vl.length) cs.length with
      | true => .w0 u8 { Dl.z with vs := [(v, repl cs c vl)] }
      | false => .no
    | none => .no
  | .pe r e c => match m.r r with
    | some row => match ownK row.ow, m.absorbs e c vl with
      | true, some a => match Nat.ble (c + vl.length) (sz row.τ), mkEl row.τ (repl (row.cs e) c a.cts) with
        | true, some y => match allFlat vl with
          | true => .w (okEl row.τ a.cts) u8 { Dl.z with rs := [(r, some { row with xs := row.xs.set e y })] }
          | false => match nodupN (r :: (keys a.mv ++ keys a.sh)) with
            | true => .w (okEl row.τ a.cts) u8 { Dl.z with mv := pvs r a.mv, kn := [r], rs := gone a.mv ++ (m.share a.sh ++ [(r, some { row with xs := row.xs.set e y, ow := min row.ow a.lv })]) }
            | false => .no
        | _, _ => .no
      | _, _ => .no
    | none => .no
  | .pn r e c k d => match m.r r with
    | some row => match Nat.beq row.ow 5, allFlat vl, m.cts vl with
      | true, true, some cts => match nth (row.cs e) c with
        | some (.l τ ys) => match Nat.ble (d + vl.length) (sz τ), mkEl τ (repl (cells τ (ys.getD k (dflt τ))) d cts) with
          | true, some y => match mkEl row.τ (repl (row.cs e) c [.l τ (ys.set k y)]) with
            | some z => .w (okEl τ cts) u8 { Dl.z with rs := [(r, some { row with xs := row.xs.set e z })] }
            | none => .no
          | _, _ => .no
        | _ => .no
      | _, _, _ => .no
    | none => .no
  | _ => .no

/-- new elements, each from its cells -/
structure Els (τ : Ty) where
  ys : List (El τ)
  mv : List (Nat × (Nat × Nat))
  sh : List (Nat × Nat)
  lv : Nat
  ok : Bool
def Lk.newEls (m : Lk) (τ : Ty) : Nat → List (List Cv) → Option (Els τ)
  | _, [] => some ⟨[], [], [], 5, true⟩
  | e, x :: l => match m.absorbs e 0 x, m.newEls τ (e + 1) l with
    | some a, some b => match mkEl τ a.cts with
      | some y => some ⟨y :: b.ys, a.mv ++ b.mv, a.sh ++ b.sh, min a.lv b.lv, okEl τ a.cts && b.ok⟩
      | none => none
    | _, _ => none

def BIG : Nat := 1099511627776   -- 2 ^ 40 elements: more than any list here has

def appT : (τ τ' : Ty) → List (El τ') → List (El τ) → Option (List (El τ'))
  | .int, .int, xs, ys => some (xs ++ ys) | .bool, .bool, xs, ys => some (xs ++ ys) | .byte, .byte, xs, ys => some (xs ++ ys) | .str, .str, xs, ys => some (xs ++ ys)
  | .slot, .slot, xs, ys => some (xs ++ ys) | .inode, .inode, xs, ys => some (xs ++ ys) | .block, .block, xs, ys => some (xs ++ ys) | .dep, .dep, xs, ys => some (xs ++ ys)
  | .node, .node, xs, ys => some (xs ++ ys) | .event, .event, xs, ys => some (xs ++ ys) | _, _, _, _ => none
def neN (a : Option Nat) (b : Nat) : Bool := match a with | some a => (match Nat.beq a b with | true => false | false => true) | none => true

/-- what is put behind a row: is what its elements point to handed over with it (then the row is gone)? the greatest kind that the row may have then -/
structure Ap where
  gone : List Nat
  rs : List (Nat × Option Row)
  lv : Nat
def Lk.apOf (m : Lk) (τ : Ty) (y : Cv) : Ap := match τ.deep, y.row with
  | true, some r => match m.r r with
    | some row => match row.ow with
      | 5 => (match y with
        | .sw _ => ⟨[r], [(r, none)], 5⟩
        | _ => ⟨[], [(r, some { row with ow := 4 })], 4⟩)
      | 4 => ⟨[], [], 4⟩
      | 3 => ⟨[], [], 4⟩
      | _ => ⟨[], [], 2⟩
    | none => ⟨[], [], 2⟩
  | _, _ => ⟨[], [], 5⟩
/-- is it no row that a function was given to write? -/
def notIo (r : Nat) : Bool := match Nat.ble 200000 r, Nat.ble r 299999 with | true, true => false | _, _ => true
/-- append at a slice of elements τ0: the row that is had, and what is put behind it -/
def Lk.append (m : Lk) (τ0 : Ty) (d : Nat) (x y : Cv) : Out :=
  match (m.vw y).ct with
  | some (.l τ ys) => match tEq τ τ0, m.apOf τ y with
    | true, ⟨g, sy, lv⟩ => match x with
      | .nl _ => match neN y.row (d * 64) with
        | true => .w (Nat.ble ys.length BIG) (.c (.sw (d * 64))) { Dl.z with kr := d * 64 :: g, rs := sy ++ [(d * 64, some ⟨τ, ys, lv⟩)] }
        | false => .no
      | .sw r => match neN y.row r && notIo r, m.r r with
        | true, some ⟨τ', xs, ow⟩ => match ownK ow, appT τ τ' xs ys with
          | true, some zs => .w (Nat.ble zs.length BIG) (.c (.sw r)) { Dl.z with kr := r :: g, rs := sy ++ [(r, some ⟨τ', zs, min ow lv⟩)] }
          | _, _ => .no
        | _, _ => .no
      | _ => .no
    | _, _ => .no
  | _ => .no

def Lk.sliceA (m : Lk) (x : AV) (lo hi : Option Int) : Out := match x with
  | .c (.s a) => match lo, hi with
    | none, none => .r0 (.c (.s (a.extract 0 a.size)))
    | some l, none => .r (decide (0 ≤ l) && decide (l ≤ (a.size : Int))) (.c (.s (a.extract l.toNat a.size)))
    | none, some h => .r (decide (0 ≤ h) && decide (h ≤ (a.size : Int))) (.c (.s (a.extract 0 h.toNat)))
    | some l, some h => .r (decide (0 ≤ l) && (decide (l ≤ h) && decide (h ≤ (a.size : Int)))) (.c (.s (a.extract l.toNat h.toNat)))
  | .c x => match (m.vw x).len with
    | none => .no
    | some n =>
      let mk (l : Nat) (k : Nat) : AV := match x with
        | .sw r => .c (.sl r l k) | .sl r off _ => .c (.sl r (off + l) k) | .nw r e c => .c (.ns r e c l k) | .ns r e c off _ => .c (.ns r e c (off + l) k) | .nl τ => .c (.nl τ) | _ => .c .un
      match lo, hi with
      | none, none => .r0 (.c x)
      | some l, none => .r (decide (0 ≤ l) && decide (l ≤ (n : Int))) (mk l.toNat (n - l.toNat))
      | none, some h => .r (decide (0 ≤ h) && decide (h ≤ (n : Int))) (mk 0 h.toNat)
      | some l, some h => .r (decide (0 ≤ l) && (decide (l ≤ h) && decide (h ≤ (n : Int)))) (mk l.toNat (h.toNat - l.toNat))
  | _ => .no

def AV.int : AV → Option Int
  | .c (.i _ n) => some n
  | _ => none
def optI (f : Operand → AV) : Option Operand → Option (Option Int)
  | none => some none
  | some o => match (f o).int with | some n => some (some n) | none => none
def fillP (X : Ctx) (t : TypeId) (f : Operand → AV) : List (Nat × Operand) → List Cv → Option (List Cv)
  | [], acc => some acc
  | (i, o) :: l, acc => match fOff X.P t i, (f o).cells with
    | some off, some cs => match Nat.ble (off + cs.length) acc.length, Nat.beq cs.length (szOf X.P (fTy X.P t i)) with
      | true, true => fillP X t f l (repl acc off cs)
      | _, _ => none
    | _, _ => none
/-- the parts of a slice literal, when they are all there, in order -/
def partsOf (f : Operand → AV) (z : Nat) : Nat → List (Nat × Operand) → Option (List (List Cv))
  | _, [] => some []
  | n, (i, o) :: l => match Nat.beq i n, (f o).cells, partsOf f z (n + 1) l with
    | true, some cs, some r => match Nat.beq cs.length z with | true => some (cs :: r) | false => none
    | _, _, _ => none
def capsOf (f : Operand → AV) : List Operand → Option (List Nat)
  | [] => some []
  | o :: l => match f o, capsOf f l with
    | .c (.pv v 0), some r => some (v :: r)
    | _, _ => none
def bytesOf : Vw → Option (List UInt8)
  | .w .byte xs => some xs
  | .p .byte xs off len => some (sub xs off len)
  | _ => none
def elSz (P : Program) (t : TypeId) : Nat := match elId P t with | some e => szOf P e | none => 0

def isStr (P : Program) (t : TypeId) : Bool := match P.underlying t with | some .string => true | _ => false
def isSlc (P : Program) (t : TypeId) : Bool := match P.underlying t with | some (.slice _) => true | _ => false
def Vw.ty : Vw → Option Ty
  | .no => none | .w τ _ => some τ | .p τ _ _ _ => some τ
/-- is this of a type that is cut? -/
def Lk.cutOk (m : Lk) (P : Program) (t : TypeId) : AV → Bool
  | .c (.s _) => isStr P t
  | .c x => match (m.vw x).ty with | some τ => Nat.beq (sz τ) (elSz P t) | none => false
  | _ => false
def Ctx.binT (X : Ctx) (op : BinOp) (t : TypeId) (x y : AV) : Out := match x, y with
  | .c (.b a), y' => match X.P.underlying t with | some .bool => binO op (.c (.b a)) y' | _ => .no
  | .a l, y' => match hasN t X.eqs with | true => binO op (.a l) y' | false => .no
  | x', y' => binO op x' y'
def unO (op : UnOp) (x : AV) : Out := match op, x with
  | .not, .c (.b b) => .r0 (.c (.b (!b)))
  | .neg, .c (.i k n) => .r0 (.c (.i k (k.wrap (0 - n))))
  | _, _ => .no
def Ctx.convO (X : Ctx) (m : Lk) (t u : TypeId) (x : AV) : Out := match X.P.underlying t, X.P.underlying u, x with
  | some _, some (.int k), .c (.i _ n) => .r0 (.c (.i k (k.wrap n)))
  | some (.slice e), some .string, .c a => match bytesOf (m.vw a), X.P.underlying e with
    | some xs, some (.int .u8) => .r0 (.c (.s ⟨xs.toArray⟩))
    | _, _ => .no
  | _, _, _ => .no
def lenN (b : Bool) : Option Nat → Out
  | some n => match b with | true => .r0 (.c (.i .i64 n)) | false => .no
  | none => .no
def Ctx.lenO (X : Ctx) (m : Lk) (t : TypeId) : AV → Out
  | .c (.s a) => match isStr X.P t with | true => .r0 (.c (.i .i64 a.size)) | false => .no
  | .c a => lenN (isSlc X.P t) (m.vw a).len
  | _ => .no
def mmO (f : Int → Int → Int) (x y : AV) : Out := match x, y with
  | .c (.i k a), .c (.i k' b) => (match kEq k k' with | true => .r0 (.c (.i k (f a b))) | false => .no)
  | _, _ => .no
def Ctx.appO (X : Ctx) (m : Lk) (d : Nat) (t u : TypeId) (x y : AV) : Out := match X.elOwn t, Nat.beq t u, x, y with
  | some τ, true, .c a, .c b => m.append τ d a b
  | _, _, _, _ => .no
def Ctx.clearO (X : Ctx) (m : Lk) (t : TypeId) (x : AV) : Out := match x, X.elOwn t with
  | .c (.sl r off len), some τ => match m.r r with
    | some row => match ownK row.ow && tEq row.τ τ, row.τ.deep && Nat.beq row.ow 5 with
      | true, false => .w0 u8 { Dl.z with kn := [r], rs := [(r, some { row with xs := row.xs.take off ++ (List.replicate len (dflt row.τ) ++ row.xs.drop (off + len)) })] }
      | _, _ => .no
    | none => .no
  | _, _ => .no
/-- evp: an operand, under so many guards more -/
def stepO (X : Ctx) (evp : List (Nat × Bool) → TypeId → Operand → AV) (m : Lk) (d : Nat) (ty : TypeId) (op : Op) : Out :=
  let ev := evp []
  match op with
  | .move x | .assign x => .r0 (ev ty x)
  | .pick c a b => match c with
    | .tmp t => match ev ty c with
      | .c (.b x) => .r0 (pickA x (evp [(t, true)] ty a) (evp [(t, false)] ty b))
      | _ => .no
    | _ => .no
  | .alloc t => match X.zero t with
    | some cs => .w0 (.c (.pv (1000 + d) 0)) { Dl.z with kv := [1000 + d], vs := [(1000 + d, cs)] }
    | none => .no
  | .box t x => match (ev t x).cells with
    | some cs => match Nat.beq cs.length (szOf X.P t) with
      | true => .w0 (.c (.pv (1000 + d) 0)) { Dl.z with kv := [1000 + d], vs := [(1000 + d, fmap (Dl.map { Dl.z with kv := [1000 + d] }) cs)] }
      | false => .no
    | none => .no
  | .build t parts => match X.zero t, plOk X.P t with
    | some zs, true => match fillP X t (ev ty) parts.toList zs with
      | some cs => .r0 (.a cs)
      | none => .no
    | _, _ => .no
  | .buildSlice t n parts => match X.elOwn t with
    | none => .no
    | some τ => match Nat.beq parts.size n && Nat.ble (n * sz τ) 16777216, partsOf (ev ty) (sz τ) 0 parts.toList with
      | true, some pss => match m.newEls τ 0 pss with
        | some b => match nodupN (d * 64 :: (keys b.mv ++ keys b.sh)) with
          | true =>
            let δ : Dl := { Dl.z with kr := d * 64 :: keys b.mv, rs := gone b.mv ++ (m.share b.sh ++ [(d * 64, some ⟨τ, b.ys, b.lv⟩)]) }
            match τ.isByte with
            | true => .w b.ok (.c (.sw (d * 64))) δ
            | false => .w0 (.c (.sw (d * 64))) δ
          | false => .no
        | none => .no
      | _, _ => .no
  | .load t x => match ev ty x with
    | .c a => match m.from a with
      | some cs => match Nat.ble (szOf X.P t) cs.length && ldOk X.P t with
        | true => .r0 (mkA (isAg X.P t) (cs.take (szOf X.P t)))
        | false => .no
      | none => .no
    | _ => .no
  | .store t x v => match ev ty x, (ev t v).cells with
    | .c a, some cs => match Nat.beq cs.length (szOf X.P t) && Nat.ble 1 cs.length with
      | true => m.store a cs
      | false => .no
    | _, _ => .no
  | .nilCheck x => match ev ty x with
    | .c (.pv v c) => .r0 (.c (.pv v c)) | .c (.pe r e c) => .r0 (.c (.pe r e c)) | .c (.pn r e c k d) => .r0 (.c (.pn r e c k d))
    | _ => .no
  | .binOp op t x y _ => X.binT op t (ev t x) (ev t y)
  | .unOp op t x => unO op (ev t x)
  | .convert t u x => X.convO m t u (ev t x)
  | .makeFunc (.func f) first caps => match first.size, capsOf (ev ty) caps.toList with
    | 0, some vs => .r0 (.c (.fn f vs))
    | _, _ => .no
  | .makeSlice t n c => match X.elOwn t, (ev ty n).int, (ev ty c).int with
    | some τ, some a, some b => .w ((a == b) && (decide (0 ≤ a) && Nat.ble a.toNat BIG)) (.c (.sw (d * 64)))
        { Dl.z with kr := [d * 64], rs := [(d * 64, some ⟨τ, List.replicate a.toNat (dflt τ), 5⟩)] }
    | _, _, _ => .no
  | .slice t x lo hi mx => match mx, optI (ev ty) lo, optI (ev ty) hi with
    | none, some l, some h => match m.cutOk X.P t (ev t x) with
      | true => m.sliceA (ev t x) l h
      | false => .no
    | _, _, _ => .no
  | .fieldAddr t x f => match ev ty x, fOff X.P t f, Nat.beq (szOf X.P (fTy X.P t f)) 0 with
    | .c a, some n, false => match addO a n with | .un => .no | a => .r0 (.c a)
    | _, _, _ => .no
  | .field t x f => match ev t x, fOff X.P t f with
    | .a l, some n => match Nat.ble (n + szOf X.P (fTy X.P t f)) l.length && ldOk X.P (fTy X.P t f) with
      | true => .r0 (mkA (isAg X.P (fTy X.P t f)) ((l.drop n).take (szOf X.P (fTy X.P t f))))
      | false => .no
    | _, _ => .no
  | .indexAddr t x i => match ev t x, (ev ty i).int with
    | .c a, some n => m.indexA a n (elSz X.P t)
    | _, _ => .no
  | .index t x i => match ev t x, (ev ty i).int with
    | .c (.s a), some n => match isStr X.P t with
      | true => .r (inR n a.size) (.c (.i .u8 (bt a n.toNat)))
      | false => .no
    | _, _ => .no
  | .extract x i => match ev ty x with
    | .t l => match nth l i with | some (b, cs) => .r0 (mkA b cs) | none => .no
    | _ => .no
  | .call { callee := .builtin b, args, argTypes } => match b, args.toList, argTypes.toList with
    | .len, [x], [t] => X.lenO m t (ev t x)
    | .append, [x, y], [t, u] => X.appO m d t u (ev t x) (ev t y)
    | .clear, [x], [t] => X.clearO m t (ev t x)
    | .max, [x, y], _ => mmO max (ev ty x) (ev ty y)
    | .min, [x, y], _ => mmO min (ev ty x) (ev ty y)
    | _, _, _ => .no
  | _ => .no

/-! ### calls -/
/-- an argument's content: a cell, a struct, a pointer to variable k, a function value with the variables that it has, the slice that variable k has in cell c,
    a slice that is written -/
inductive AC
  | c (x : Ct) | a (l : List Ct) | p (k : Nat) | f (g : Nat) (ks : List Nat) | al (k c : Nat) | io (τ : Ty) (xs : List (El τ))
/-- a result's cell: new, shared with what came in, what argument p has in its cell j (or what that one's cell c of element e has), not told -/
inductive Rc
  | c (x : Ct) | m (x : Ct) | al (p j e c : Nat) | aw (p j : Nat) | un
inductive RC
  | c (x : Rc) | a (l : List Rc) | t (l : List (Bool × List Rc)) | np (l : List Rc) | u
structure CR where
  res : RC
  vo : List (List Ct)
  io : List Ct
/-- am: by argument (0 by value, 7 its slices are hidden, 3 frozen, 4 | 5 handed over, 8 what a variable has, 9 written); vl: by variable, what its cells are, and are again (0 no slice, 1 as it came, 3 | 4 | 5 of this kind);
    rl: by result, what its cells' slices are (1 shared, 3 | 4 | 5 of this kind, 6 of an argument, 7 not told) -/
structure Sig where
  am : List Nat
  vl : List (List Nat)
  rl : List (List Nat)
  dr : RC                     -- a result, of its form

def hd (l : List Nat) : Nat := match l with | [] => 0 | x :: _ => x
def hdL {α : Type} (l : List (List α)) : List α := match l with | [] => [] | x :: _ => x
def tl {α : Type} (l : List α) : List α := match l with | [] => [] | _ :: l => l

def idxO (v : Nat) : Nat → List Nat → Option Nat
  | _, [] => none
  | n, w :: l => match Nat.beq w v with | true => some n | false => idxO v (n + 1) l
def addV (κ : List Nat) (v : Nat) : Nat × List Nat := match idxO v 0 κ with
  | some k => (k, κ)
  | none => (κ.length, κ ++ [v])
def addVs (κ : List Nat) : List Nat → List Nat × List Nat
  | [] => ([], κ)
  | v :: l => match addV κ v with
    | (k, κ1) => match addVs κ1 l with
      | (ks, κ2) => (k :: ks, κ2)
def findC (r : Nat) : Nat → List Cv → Option Nat
  | _, [] => none
  | n, .sw r' :: l => match Nat.beq r' r with | true => some n | false => findC r (n + 1) l
  | n, _ :: l => findC r (n + 1) l

/-- what a call gets: the contents, the variables, their pointers stand for; the rows that are handed over, that are written, that are frozen, that are looked at -/
structure AR where
  acs : List AC
  κ : List Nat
  gone : List Nat
  io : List Nat
  fz : List Nat
  bor : List Nat
  imm : Bool                  -- nothing of it is written by whoever calls
/-- are these all of rows that are not written? -/
def Lk.immC (m : Lk) (x : Cv) : Bool := match x.row with
  | some r => match m.r r with
    | some row => (match row.ow with | 1 => true | 3 => true | _ => false)
    | none => false
  | none => true
def Lk.immL (m : Lk) : List Cv → Bool
  | [] => true
  | x :: l => match m.immC x with | true => m.immL l | false => false
def borL : List Cv → List Nat
  | [] => []
  | x :: l => match x.row with | some r => r :: borL l | none => borL l
/-- the rows that these cells own, of a kind -/
def Lk.owned (m : Lk) (w : Nat) : List Cv → Option (List Nat)
  | [] => some []
  | .sw r :: l => match m.r r, m.owned w l with
    | some row, some k => match leK w row.ow with | true => some (r :: k) | false => none
    | _, _ => none
  | .nl _ :: l | .b _ :: l | .i .. :: l | .s _ :: l => m.owned w l
  | _ => none
def consA (x : AC) (g : List Nat) (io fz bor : List Nat) (b : Bool) (q : Option AR) : Option AR := match q with
  | some q => some ⟨x :: q.acs, q.κ, g ++ q.gone, io ++ q.io, fz ++ q.fz, bor ++ q.bor, match b with | true => q.imm | false => false⟩
  | none => none
def hideC : Ct → Ct
  | .l .. => .u
  | x => x
def hideA : AC → AC
  | .a l => .a (fmap hideC l)
  | .c x => .c (hideC x)
  | x => x
/-- an argument of cells -/
def Lk.argL (m : Lk) (w : Nat) (cs : List Cv) (x : AC) (q : Option AR) : Option AR := match w with
  | 0 => consA x [] [] [] (borL cs) (m.immL cs) q
  | 7 => consA (hideA x) [] [] [] [] true q
  | w => match hdK w, m.owned w cs with
    | true, some g => match w with
      | 3 => consA x [] [] g [] true q
      | _ => consA x g [] [] [] false q
    | _, _ => none
def Lk.arg9 (m : Lk) (x : Cv) (q : Option AR) : Option AR := match x with
  | .sw r => match m.r r with
    | some row => match Nat.beq row.ow 5 with
      | true => consA (.io row.τ row.xs) [] [r] [] [] false q
      | false => none
    | none => none
  | _ => none
def Lk.arg8 (m : Lk) (x : Cv) (κ : List Nat) (q : Option AR) : Option AR := match x, κ with
  | .sw r, v :: _ => match m.v v with
    | some cs => match findC r 0 cs with
      | some c => consA (.al 0 c) [] [] [] [] false q
      | none => none
    | none => none
  | _, _ => none
def Lk.arg1 (m : Lk) (w : Nat) (x : Cv) (κ : List Nat) (q : Option AR) : Option AR := match w with
  | 9 => m.arg9 x q
  | 8 => m.arg8 x κ q
  | w => match m.ct x with
    | some y => m.argL w [x] (.c y) q
    | none => none
def Lk.args (m : Lk) : List Nat → List AV → List Nat → Option AR
  | _, [], κ => some ⟨[], κ, [], [], [], [], true⟩
  | am, v :: l, κ => match v with
    | .c (.pv v 0) => match addV κ v with
      | (k, κ1) => consA (.p k) [] [] [] [] false (m.args (tl am) l κ1)
    | .c (.fn f caps) => match addVs κ caps with
      | (ks, κ1) => consA (.f f ks) [] [] [] [] false (m.args (tl am) l κ1)
    | .a cs => match Nat.ble cs.length 63, m.cts cs with
      | true, some ys => m.argL (hd am) cs (.a ys) (m.args (tl am) l κ)
      | _, _ => none
    | .c x => m.arg1 (hd am) x κ (m.args (tl am) l κ)
    | _ => none
def Lk.vins (m : Lk) : List (List Nat) → List Nat → Option (List (List Ct))
  | _, [] => some []
  | vl, v :: l => match m.v v with
    | some cs => match Nat.ble cs.length 63, m.cts cs, m.vins (tl vl) l with
      | true, some a, some b => some (a :: b)
      | _, _, _ => none
    | none => none

def flatC : Ct → Option Cv
  | .u => some .un | .b x => some (.b x) | .i k n => some (.i k n) | .s x => some (.s x) | .l .. => none
/-- the rows that a variable's cells own, and those that stay; none where it should own, and does not -/
def Lk.ownRows (m : Lk) : List Nat → List Cv → Option (List Nat × List Nat)
  | _, [] => some ([], [])
  | ms, x :: l => match m.ownRows (tl ms) l with
    | none => none
    | some (k, b) => match hd ms with
      | 0 => match x.row with | some r => some (k, r :: b) | none => some (k, b)
      | 1 => match x.row with | some r => some (k, r :: b) | none => some (k, b)
      | w => match x with
        | .sw r => match m.r r with
          | some row => match hdK w && notIo r, leK w row.ow with | true, true => some (r :: k, b) | _, _ => none
          | none => none
        | .nl _ => match hdK w with | true => some (k, b) | false => none
        | _ => none
def Lk.ownRowsOf (m : Lk) : List (List Nat) → List Nat → Option (List Nat × List Nat)
  | _, [] => some ([], [])
  | vl, v :: l => match m.v v with
    | some cs => match m.ownRows (hdL vl) cs, m.ownRowsOf (tl vl) l with
      | some (a, b), some (a', b') => some (a ++ a', b ++ b')
      | _, _ => none
    | none => none

/-- what is handed to a call by its variables: the rows that they own, those that stay; none where what is handed over is not apart -/
def Lk.handed (m : Lk) (g : Sig) (ar : AR) : Option (List Nat × List Nat) := match m.ownRowsOf g.vl ar.κ with
  | none => none
  | some (ow, b) =>
    match nodupN (ar.gone ++ (ow ++ ar.io)), disjN ar.fz (ar.gone ++ (ow ++ ar.io)), disjN ar.bor (ar.gone ++ (ow ++ ar.io)), disjN b (ar.gone ++ (ow ++ ar.io)) with
    | true, true, true, true => some (ow, b)
    | _, _, _, _ => none

/-- a variable's cells behind a call; the rows that they have now -/
def cellsNew (f : Cv → Cv) (v : Nat) : Nat → List Nat → List Cv → List Ct → Option (List Cv × List (Nat × Row))
  | _, _, [], [] => some ([], [])
  | j, ms, c :: cs, y :: ys => match cellsNew f v (j + 1) (tl ms) cs ys with
    | none => none
    | some (cs', rs') => match hd ms with
      | 0 => match flatC y with | some x => some (x :: cs', rs') | none => none
      | 1 => some (f c :: cs', rs')
      | w => match y with
        | .l τ xs => match c with
          | .sw r => some (.sw r :: cs', (r, ⟨τ, xs, w⟩) :: rs')
          | _ => some (.sw (1000000 + v * 64 + j) :: cs', (1000000 + v * 64 + j, ⟨τ, xs, w⟩) :: rs')
        | _ => none
  | _, _, _, _ => none
def Lk.varsNew (m : Lk) (f : Cv → Cv) : List (List Nat) → List Nat → List (List Ct) → Option (List (Nat × List Cv) × List (Nat × Row))
  | _, [], [] => some ([], [])
  | vl, v :: κ, l :: vo => match m.v v with
    | some cs => match cellsNew f v 0 (hdL vl) cs l, m.varsNew f (tl vl) κ vo with
      | some (a, r), some (b, q) => some ((v, a) :: b, r ++ q)
      | _, _ => none
    | none => none
  | _, _, _ => none
def Lk.ioNew (m : Lk) : List Nat → List Ct → Option (List (Nat × Row))
  | [], [] => some []
  | r :: l, .l τ xs :: y => match m.r r, m.ioNew l y with
    | some row, some q => match tEq row.τ τ with
      | true => some ((r, ⟨τ, xs, row.ow⟩) :: q)
      | false => none
    | _, _ => none
  | _, _ => none

/-- a cell of an argument -/
def argC (as : List AV) (p j : Nat) : Option Cv := match nth as p with
  | some (.c x) => match j with | 0 => some x | _ => none
  | some (.a l) => nth l j
  | _ => none
def aliasC (as : List AV) : Rc → Option Cv
  | .aw p j => argC as p j
  | .al p j e c => match argC as p j with
    | some (.sw r) => some (.nw r e c)
    | some (.sl r off _) => some (.nw r (off + e) c)
    | _ => some .un
  | .un => some .un
  | .c _ => none
  | .m _ => none
/-- the cells of a result: what they have is new rows, from key k on -/
def resCs (f : Cv → Cv) (as : List AV) (imm : Bool) : Nat → List Nat → List Rc → Option (List Cv × List (Nat × Row))
  | _, _, [] => some ([], [])
  | k, ms, y :: ys => match resCs f as imm (k + 1) (tl ms) ys with
    | none => none
    | some (cs, rs) => match y with
      | .m (.l τ xs) => (match imm with
        | true => some (.sw k :: cs, (k, ⟨τ, xs, 1⟩) :: rs)
        | false => some (.un :: cs, rs))
      | .m y => match flatC y with | some x => some (x :: cs, rs) | none => none
      | .c (.l τ xs) => some (.sw k :: cs, (k, ⟨τ, xs, hd ms⟩) :: rs)
      | .c y => match flatC y with | some x => some (x :: cs, rs) | none => none
      | y => match aliasC as y with | some x => some (f x :: cs, rs) | none => none
def resTs (f : Cv → Cv) (as : List AV) (imm : Bool) : Nat → List (List Nat) → List (Bool × List Rc) → Option (List (Bool × List Cv) × List (Nat × Row))
  | _, _, [] => some ([], [])
  | k, ms, (b, l) :: ys => match resCs f as imm k (hdL ms) l, resTs f as imm (k + l.length) (tl ms) ys with
    | some (cs, rs), some (ts, rs') => some ((b, cs) :: ts, rs ++ rs')
    | _, _ => none
/-- the value; the rows; the new variable -/
def resA (f : Cv → Cv) (as : List AV) (imm : Bool) (rl : List (List Nat)) (d : Nat) : RC → Option (AV × List (Nat × Row) × List (Nat × List Cv))
  | .u => some (.t [], [], [])
  | .c x => match resCs f as imm (d * 64) (hdL rl) [x] with
    | some ([c], rs) => some (.c c, rs, [])
    | _ => none
  | .a l => match resCs f as imm (d * 64) (hdL rl) l with
    | some (cs, rs) => some (.a cs, rs, [])
    | none => none
  | .t l => match resTs f as imm (d * 64) rl l with
    | some (ts, rs) => some (.t ts, rs, [])
    | none => none
  | .np l => match resCs f as imm (d * 64) (hdL rl) l with
    | some (cs, rs) => some (.c (.pv (1000 + d) 0), rs, [(1000 + d, cs)])
    | none => none
def rcsN : List Rc → Nat
  | [] => 0
  | _ :: l => rcsN l + 1
def rtsN : List (Bool × List Rc) → Nat
  | [] => 0
  | (_, l) :: m => rcsN l + rtsN m
/-- the keys that a result may take -/
def upK : Nat → Nat → List Nat
  | _, 0 => []
  | k, n + 1 => k :: upK (k + 1) n
def RC.keys (d : Nat) : RC → List Nat
  | .u => [] | .c _ => [d * 64] | .a l => upK (d * 64) (rcsN l) | .t l => upK (d * 64) (rtsN l) | .np l => upK (d * 64) (rcsN l)
def homes (v : Nat) : Nat → List Cv → List Nat
  | _, [] => []
  | j, _ :: l => (1000000 + v * 64 + j) :: homes v (j + 1) l
def Lk.homesOf (m : Lk) : List Nat → List Nat
  | [] => []
  | v :: l => (match m.v v with | some cs => homes v 0 cs | none => []) ++ m.homesOf l
def somes : List (Nat × Row) → List (Nat × Option Row)
  | [] => []
  | (k, r) :: l => (k, some r) :: somes l
def nones : List Nat → List (Nat × Option Row)
  | [] => []
  | k :: l => (k, none) :: nones l

def Lk.frz (m : Lk) : List Nat → List (Nat × Option Row)
  | [] => []
  | r :: l => match m.r r with | some row => (r, some { row with ow := 3 }) :: m.frz l | none => m.frz l
def RC.kv (d : Nat) : RC → List Nat
  | .np _ => [1000 + d]
  | _ => []
/-- what dies with a call -/
def Lk.dl0 (m : Lk) (ar : AR) (res : RC) (ow : List Nat) (d : Nat) : Dl := ⟨[], ar.gone ++ (ow ++ (res.keys d ++ m.homesOf ar.κ)), ar.io, [], res.kv d, [], []⟩
def allLt (n : Nat) : List Nat → Bool
  | [] => true
  | x :: l => Nat.blt x n && allLt n l
/-- the value of a call, and what it changes -/
def Lk.after (m : Lk) (g : Sig) (as : List AV) (ar : AR) (cr : CR) (ow : List Nat) (d : Nat) : Option (AV × Dl) :=
    match m.varsNew (m.dl0 ar cr.res ow d).map g.vl ar.κ cr.vo, m.ioNew ar.io cr.io, resA (m.dl0 ar cr.res ow d).map as ar.imm g.rl d cr.res with
      | some (vs, r1), some r2, some (v, r3, vn) =>
        match nodupN (ar.gone ++ (keys r1 ++ (keys r2 ++ keys r3))) && allLt 100000 (cr.res.keys d), disjN ar.fz (keys r1 ++ (keys r2 ++ keys r3)) with
        | true, true => some (v, { m.dl0 ar cr.res ow d with vs := vs ++ vn, rs := nones ar.gone ++ (m.frz ar.fz ++ (somes r1 ++ (somes r2 ++ somes r3))) })
        | _, _ => none
      | _, _, _ => none

abbrev FunR (R : Type) := List AC → List (List Ct) → (CR → Option R) → Option R
structure Env (R : Type) where
  sg : Nat → Option Sig
  fn : Nat → FunR R

/-! ### regions -/
inductive Ex | normal | exit (id : Nat) | ret

/-- under which guards an operation stands, and whether they hold -/
def guardP (ops : Array Oper) (s : St) : Option (Nat × Bool) → Option (List (Nat × Bool) × Bool)
  | none => some ([], true)
  | some (j, w) => match ops[j]? with
    | none => none
    | some o => match o.dst with
      | none => none
      | some t => match s.get t with
        | .c (.b x) => some ([(t, w)], match w with | true => x | false => !x)
        | .g p q (.c (.b x)) => some (p ++ [(t, w)], q && (match w with | true => x | false => !x))
        | _ => none
def dropG : AV → AV
  | .g .. => .c .un
  | v => v
def gd (p : List (Nat × Bool)) (q : Bool) (v : AV) : AV := match p with | [] => dropG v | _ => .g p q v
def ck (p : List (Nat × Bool)) (q c : Bool) : Bool := match p with | [] => c | _ => !q || c
def chk {R : Type} (c : Bool) (k : Option R) : Option R := bif c then k else none
def gcall {R : Type} (p : List (Nat × Bool)) (q : Bool) (f : (CR → Option R) → Option R) (d : CR) (k : CR → Option R) : Option R := match p with
  | [] => f k
  | _ => bif q then f k else k d
def Lk.ioCs (m : Lk) : List Nat → List Ct
  | [] => []
  | r :: l => match m.r r with | some row => .l row.τ row.xs :: m.ioCs l | none => m.ioCs l

/-- the keys that a value refers to -/
def Cv.rk (x : Cv) : List Nat := match x.row with | some r => [r] | none => []
def Cv.vk : Cv → List Nat
  | .pv v _ => [v] | .fn _ l => l | _ => []
def rksL : List Cv → List Nat
  | [] => []
  | x :: l => x.rk ++ rksL l
def vksL : List Cv → List Nat
  | [] => []
  | x :: l => x.vk ++ vksL l
def cvsT : List (Bool × List Cv) → List Cv
  | [] => []
  | (_, l) :: m => l ++ cvsT m
def AV.cvs : AV → List Cv
  | .c x => [x] | .a l => l | .t l => cvsT l | .g _ _ v => v.cvs
/-- what an operation looks at and what it changes, by keys: temporaries, rows, variables -/
structure Fp where
  d : Option Nat
  rt : List Nat
  wt : List Nat
  rr : List Nat
  rv : List Nat
  wr : List Nat
  wv : List Nat
def opT : List Operand → List Nat
  | [] => []
  | .tmp t :: l => t :: opT l
  | _ :: l => opT l
def rksA : List AV → List Nat
  | [] => []
  | v :: l => rksL v.cvs ++ rksA l
def vksA : List AV → List Nat
  | [] => []
  | v :: l => vksL v.cvs ++ vksA l
def Lk.rowsOf (m : Lk) : List Nat → List Nat
  | [] => []
  | v :: l => (match m.v v with | some cs => rksL cs | none => []) ++ m.rowsOf l
def vcs : List (Nat × List Cv) → List Cv
  | [] => []
  | (_, l) :: m => l ++ vcs m
def guardT (ops : Array Oper) : Option (Nat × Bool) → List Nat
  | none => []
  | some (j, _) => match ops[j]? with | some o => (match o.dst with | some t => [t] | none => []) | none => []
/-- what an operation with these operands' values may look at: rows, variables -/
def rdV (as : List AV) : List Nat := vksA as
def rdR (s : St) (as : List AV) : List Nat := rksA as ++ s.lk.rowsOf (vksA as)
def rdT (ops : Array Oper) (o : Oper) : List Nat := opT o.op.operands.toList ++ guardT ops o.guard
def cutL {α : Type} (ks : List Nat) : List (Nat × α) → List (Nat × α)
  | [] => []
  | (k, v) :: l => match hasN k ks with | true => (k, v) :: cutL ks l | false => cutL ks l
/-- no more than an operation may look at -/
def opAs (ops : Array Oper) (s : St) (o : Oper) : List AV := fmap s.get (rdT ops o)
def St.cut (s : St) (ops : Array Oper) (o : Oper) : St := ⟨cutL (rdT ops o) s.tm, cutL (rdV (opAs ops s o)) s.vs, cutL (rdR s (opAs ops s o)) s.rs⟩
def Lk.varsOf (m : Lk) : List Nat → List Nat
  | [] => []
  | v :: l => (match m.v v with | some cs => vksL cs | none => []) ++ m.varsOf l
/-- the temporaries and the variables that a change reaches: rows R, variables V -/
def hitT (R V : List Nat) : List (Nat × AV) → List Nat
  | [] => []
  | (t, v) :: l => match anyN (rksL v.cvs) R, anyN (vksL v.cvs) V with | false, false => hitT R V l | _, _ => t :: hitT R V l
def hitV (R V : List Nat) : List (Nat × List Cv) → List Nat
  | [] => []
  | (k, cs) :: l => match anyN (rksL cs) R, anyN (vksL cs) V with | false, false => hitV R V l | _, _ => k :: hitV R V l
def Dl.kills (δ : Dl) : List Nat := keys δ.mv ++ (δ.kr ++ (δ.ke ++ δ.kn))
def mvT : List (Nat × (Nat × Nat × Nat)) → List Nat
  | [] => []
  | (_, (d, _)) :: l => d :: mvT l
/-- the footprint of an operation that looks at a state, yields a value, and makes a change -/
def fpOf (ops : Array Oper) (s : St) (o : Oper) (v : AV) (δ : Dl) : Fp :=
  ⟨o.dst, rdT ops o, (match δ.quiet with | true => [] | false => hitT δ.kills δ.kv s.tm),
    rdR s (opAs ops s o) ++ (rksL v.cvs ++ rksL (vcs δ.vs)), rdV (opAs ops s o) ++ (s.lk.varsOf (vksA (opAs ops s o)) ++ (vksL v.cvs ++ vksL (vcs δ.vs))),
    mvT δ.mv ++ (δ.kills ++ keys δ.rs), δ.kv ++ ((match δ.quiet with | true => [] | false => hitV δ.kills δ.kv s.vs) ++ keys δ.vs)⟩
def disjO (a : Option Nat) (l : List Nat) : Bool := match a with | some t => (match hasN t l with | true => false | false => true) | none => true
def apart (a b : Fp) : Bool :=
  disjN a.wt b.rt && (disjO a.d b.rt && (disjO b.d a.rt && ((match a.d, b.d with | some x, some y => (match Nat.beq x y with | true => false | false => true) | _, _ => true) &&
  (disjN a.wr b.rr && (disjN a.wr b.wr && (disjN a.rr b.wr && (disjN a.wv b.rv && (disjN a.wv b.wv && disjN a.rv b.wv))))))))

/-- is that what nothing looks like? -/
def nilCt : Ct → Bool
  | .l _ [] => true | .l .. => false | _ => true
def nilRcs : List Rc → Bool
  | [] => true
  | .c x :: l | .m x :: l => nilCt x && nilRcs l
  | _ => false
def nilRts : List (Bool × List Rc) → Bool
  | [] => true
  | (_, l) :: m => nilRcs l && nilRts m
def drOk : RC → Bool
  | .u => true | .c x => nilRcs [x] | .a l => nilRcs l | .t l => nilRts l | .np _ => false
/-- may a change stand behind && or ||? -/
def le1s : List (List Nat) → Bool
  | [] => true
  | l :: m => le1 l && le1s m
  where le1 : List Nat → Bool
  | [] => true
  | x :: l => Nat.ble x 1 && le1 l
def grdOk (p : List (Nat × Bool)) (g : Sig) (ar : AR) (v : AV) : Bool := match p with
  | [] => true
  | _ => le1s g.vl && (drOk g.dr && (match ar.gone, ar.io, ar.fz, v with | [], [], [], .c (.pv ..) => false | [], [], [], _ => true | _, _, _, _ => false))
/-- an operation that looks at s: its value, its change -/
def runOp {R : Type} (X : Ctx) (E : Env R) (ops : Array Oper) (s : St) (o : Oper) (K : List (Nat × Bool) → Bool → AV → Dl → Option R) : Option R :=
  match guardP ops s o.guard with
  | none => none
  | some (p, q) =>
    let evp := fun (e : List (Nat × Bool)) => X.opnd s (p ++ e)
    match o.op with
    | .call { callee := .value f, args, .. } => match evp [] 0 f with
      | .c (.fn g caps) => match E.sg g with
        | none => none
        | some sig =>
          let avs := fmap (evp [] 0) args.toList ++ fmap (fun v => AV.c (.pv v 0)) caps
          match s.lk.args sig.am avs [] with
          | none => none
          | some ar => match s.lk.vins sig.vl ar.κ, s.lk.handed sig ar, Nat.ble avs.length 1000 && Nat.ble ar.κ.length 1000 with
            | some vin, some (ow, _), true => gcall p q (E.fn g ar.acs vin) ⟨sig.dr, vin, s.lk.ioCs ar.io⟩ fun cr =>
              match s.lk.after sig avs ar cr ow (match o.dst with | some d => d | none => 0) with
              | none => none
              | some (v, δ) => match grdOk p sig ar v with
                | true => K p q v δ
                | false => none
            | _, _, _ => none
      | _ => none
    | op => match stepO X evp s.lk (match o.dst with | some d => d | none => 0) o.type op with
      | .no => none
      | .r0 v => K p q v Dl.z
      | .r c v => chk (ck p q c) (K p q v Dl.z)
      | .w0 v δ => match p with
        | [] => K p q v δ
        | _ => none
      | .w c v δ => match p with
        | [] => chk c (K p q v δ)
        | _ => none
def execOps {R : Type} (X : Ctx) (E : Env R) (ops : Array Oper) (draw : Bool) : List Oper → St → List Fp → (St → List Fp → Option R) → Option R
  | [], s, fp, K => K s fp
  | o :: l, s, fp, K => match draw with
    | false => runOp X E ops s o fun p q v δ => execOps X E ops draw l ((s.app δ).put o.dst (gd p q v)) fp K
    | true => runOp X E ops (s.cut ops o) o fun p q v δ => execOps X E ops draw l ((s.app δ).put o.dst (gd p q v)) (fp ++ [fpOf ops s o v δ]) K

def dsts : List Oper → List Nat
  | [] => []
  | o :: l => match o.dst with | some d => d :: dsts l | none => dsts l
/-- which operations come ahead of each -/
def addN (x : Nat) (l : List Nat) : List Nat := match hasN x l with | true => l | false => x :: l
def addNs : List Nat → List Nat → List Nat
  | [], m => m
  | x :: l, m => addN x (addNs l m)
def bindsE (e : Edge) : Bool := match e.ground with | .textOnly _ => false | .gcOnly _ => false | _ => true
def edgesL : List Edge → List Nat
  | [] => []
  | e :: l => match bindsE e with | true => e.on :: edgesL l | false => edgesL l
def getL (l : List (List Nat)) (j : Nat) : List Nat := match nth l j with | some x => x | none => []
def ancF (acc : List (List Nat)) : List Nat → List Nat
  | [] => []
  | e :: l => addN e (addNs (getL acc e) (ancF acc l))
def ancs : List (List Nat) → List Oper → List (List Nat)
  | acc, [] => acc
  | acc, o :: l => ancs (acc ++ [ancF acc (edgesL o.after.toList)]) l
def gdLt : Nat → List Oper → Bool
  | _, [] => true
  | i, o :: l => (match o.guard with | some (j, _) => Nat.blt j i | none => true) && gdLt (i + 1) l
def edgeLt : Nat → List Oper → Bool
  | _, [] => true
  | j, o :: l => allLt j (edgesL o.after.toList) && edgeLt (j + 1) l
/-- are the guards among them? -/
def gdAnc (A : List (List Nat)) : Nat → List Oper → Bool
  | _, [] => true
  | i, o :: l => (match o.guard with | some (j, _) => hasN j (getL A i) | none => true) && gdAnc A (i + 1) l
/-- do two operations that may come in either order keep apart? -/
def apartAll (A : List (List Nat)) : Nat → List Fp → List Fp → Bool
  | _, _, [] => true
  | j, done, x :: l => go (getL A j) 0 done x && apartAll A (j + 1) (done ++ [x]) l
  where go (n : List Nat) : Nat → List Fp → Fp → Bool
  | _, [], _ => true
  | i, y :: m, x => (match hasN i n with | true => true | false => apart y x) && go n (i + 1) m x
def dropGs : List (Nat × AV) → List (Nat × AV)
  | [] => []
  | (k, v) :: l => (k, dropG v) :: dropGs l
def execReg {R : Type} (X : Ctx) (E : Env R) (ops : Array Oper) (draw : Bool) (s : St) (K : St → Option R) : Option R :=
  match nodupN (dsts ops.toList) && (allLt X.nt (dsts ops.toList) && (Nat.ble X.nt 1500 && gdLt 0 ops.toList)) with
  | false => none
  | true => execOps X E ops draw ops.toList s [] fun s' fp => match draw with
    | false => K ⟨dropGs s'.tm, s'.vs, s'.rs⟩
    | true => match edgeLt 0 ops.toList && (gdAnc (ancs [] ops.toList) 0 ops.toList && apartAll (ancs [] ops.toList) 0 [] fp) with
      | true => K ⟨dropGs s'.tm, s'.vs, s'.rs⟩
      | false => none

/-! ### the state at the head of a loop, and where it is left: what is fixed of it, and the values -/
inductive Val | b (x : Bool) | i (k : IntKind) (n : Int) | s (x : ByteArray) | l (τ : Ty) (xs : List (El τ)) | n (x : Nat)
inductive Sh | un | b | i (k : IntKind) | s | nl (τ : Ty) | sw (r : Nat) | sl (r : Nat) | nw (r c : Nat) | ns (r c : Nat) | pv (v c : Nat) | pe (r c : Nat) | pn (r c d : Nat) | fn (f : Nat) (caps : List Nat)
inductive ShA | c (x : Sh) | a (l : List Sh) | t (l : List (Bool × List Sh))
structure Sk where
  tm : List (Nat × ShA)
  vs : List (Nat × List Sh)
  rs : List (Nat × (Ty × Nat))

def flC : Cv → Sh × List Val
  | .un => (.un, []) | .b x => (.b, [.b x]) | .i k n => (.i k, [.i k n]) | .s x => (.s, [.s x]) | .nl τ => (.nl τ, [])
  | .sw r => (.sw r, []) | .sl r a b => (.sl r, [.n a, .n b]) | .nw r e c => (.nw r c, [.n e]) | .ns r e c a b => (.ns r c, [.n e, .n a, .n b])
  | .pv v c => (.pv v c, []) | .pe r e c => (.pe r c, [.n e]) | .pn r e c k d => (.pn r c d, [.n e, .n k]) | .fn f caps => (.fn f caps, [])
def flL : List Cv → List Sh × List Val
  | [] => ([], [])
  | x :: l => let (a, v) := flC x
    let (b, w) := flL l
    (a :: b, v ++ w)
def flT : List (Bool × List Cv) → List (Bool × List Sh) × List Val
  | [] => ([], [])
  | (t, x) :: l => let (a, v) := flL x
    let (b, w) := flT l
    ((t, a) :: b, v ++ w)
def flA : AV → ShA × List Val
  | .c x => let (a, v) := flC x
    (.c a, v)
  | .a l => let (a, v) := flL l
    (.a a, v)
  | .t l => let (a, v) := flT l
    (.t a, v)
  | .g .. => (.c .un, [])
def flTm : List (Nat × AV) → List (Nat × ShA) × List Val
  | [] => ([], [])
  | (k, x) :: l => let (a, v) := flA x
    let (b, w) := flTm l
    ((k, a) :: b, v ++ w)
def flVs : List (Nat × List Cv) → List (Nat × List Sh) × List Val
  | [] => ([], [])
  | (k, x) :: l => let (a, v) := flL x
    let (b, w) := flVs l
    ((k, a) :: b, v ++ w)
def flRs : List (Nat × Row) → List (Nat × (Ty × Nat)) × List Val
  | [] => ([], [])
  | (k, x) :: l => let (b, w) := flRs l
    ((k, (x.τ, x.ow)) :: b, .l x.τ x.xs :: w)
def flat (s : St) : Sk × List Val :=
  let (a, v) := flTm s.tm
  let (b, w) := flVs s.vs
  let (c, u) := flRs s.rs
  (⟨a, b, c⟩, v ++ (w ++ u))

def unC : Sh → List Val → Option (Cv × List Val)
  | .un, l => some (.un, l) | .b, .b x :: l => some (.b x, l) | .i _, .i k n :: l => some (.i k n, l) | .s, .s x :: l => some (.s x, l) | .nl τ, l => some (.nl τ, l)
  | .sw r, l => some (.sw r, l) | .sl r, .n a :: .n b :: l => some (.sl r a b, l) | .nw r c, .n e :: l => some (.nw r e c, l)
  | .ns r c, .n e :: .n a :: .n b :: l => some (.ns r e c a b, l) | .pv v c, l => some (.pv v c, l) | .pe r c, .n e :: l => some (.pe r e c, l)
  | .pn r c d, .n e :: .n k :: l => some (.pn r e c k d, l) | .fn f caps, l => some (.fn f caps, l)
  | _, _ => none
def unL : List Sh → List Val → Option (List Cv × List Val)
  | [], l => some ([], l)
  | a :: b, l => match unC a l with
    | some (x, l) => match unL b l with | some (y, l) => some (x :: y, l) | none => none
    | none => none
def unT : List (Bool × List Sh) → List Val → Option (List (Bool × List Cv) × List Val)
  | [], l => some ([], l)
  | (t, a) :: b, l => match unL a l with
    | some (x, l) => match unT b l with | some (y, l) => some ((t, x) :: y, l) | none => none
    | none => none
def unA : ShA → List Val → Option (AV × List Val)
  | .c a, l => match unC a l with | some (x, l) => some (.c x, l) | none => none
  | .a a, l => match unL a l with | some (x, l) => some (.a x, l) | none => none
  | .t a, l => match unT a l with | some (x, l) => some (.t x, l) | none => none
def unTm : List (Nat × ShA) → List Val → Option (List (Nat × AV) × List Val)
  | [], l => some ([], l)
  | (k, a) :: b, l => match unA a l with
    | some (x, l) => match unTm b l with | some (y, l) => some ((k, x) :: y, l) | none => none
    | none => none
def unVs : List (Nat × List Sh) → List Val → Option (List (Nat × List Cv) × List Val)
  | [], l => some ([], l)
  | (k, a) :: b, l => match unL a l with
    | some (x, l) => match unVs b l with | some (y, l) => some ((k, x) :: y, l) | none => none
    | none => none
def unRs : List (Nat × (Ty × Nat)) → List Val → Option (List (Nat × Row))
  | [], [] => some []
  | (k, (_, ow)) :: b, .l τ xs :: l => match unRs b l with | some y => some ((k, ⟨τ, xs, ow⟩) :: y) | none => none
  | _, _ => none
def unflat (k : Sk) (l : List Val) : Option St :=
  match unTm k.tm l with
  | none => none
  | some (a, l) => match unVs k.vs l with
    | none => none
    | some (b, l) => match unRs k.rs l with
      | none => none
      | some c => some ⟨a, b, c⟩

def eqNs : List Nat → List Nat → Bool
  | [], [] => true
  | a :: l, b :: m => Nat.beq a b && eqNs l m
  | _, _ => false
def eqSh : Sh → Sh → Bool
  | .un, .un | .b, .b | .s, .s => true
  | .i a, .i b => kEq a b
  | .nl a, .nl b => tEq a b
  | .sw a, .sw b | .sl a, .sl b => Nat.beq a b
  | .nw a b, .nw c d | .ns a b, .ns c d | .pv a b, .pv c d | .pe a b, .pe c d => Nat.beq a c && Nat.beq b d
  | .pn a b c, .pn d e f => Nat.beq a d && (Nat.beq b e && Nat.beq c f)
  | .fn a l, .fn b m => Nat.beq a b && eqNs l m
  | _, _ => false
def eqL : List Sh → List Sh → Bool
  | [], [] => true
  | a :: l, b :: m => eqSh a b && eqL l m
  | _, _ => false
def eqTs : List (Bool × List Sh) → List (Bool × List Sh) → Bool
  | [], [] => true
  | (x, a) :: l, (y, b) :: m => (match x, y with | true, true | false, false => true | _, _ => false) && (eqL a b && eqTs l m)
  | _, _ => false
def eqA : ShA → ShA → Bool
  | .c a, .c b => eqSh a b
  | .a a, .a b => eqL a b
  | .t a, .t b => eqTs a b
  | _, _ => false
def eqTm : List (Nat × ShA) → List (Nat × ShA) → Bool
  | [], [] => true
  | (x, a) :: l, (y, b) :: m => Nat.beq x y && (eqA a b && eqTm l m)
  | _, _ => false
def eqVs : List (Nat × List Sh) → List (Nat × List Sh) → Bool
  | [], [] => true
  | (x, a) :: l, (y, b) :: m => Nat.beq x y && (eqL a b && eqVs l m)
  | _, _ => false
/-- the first may be owned more -/
def eqRs : List (Nat × (Ty × Nat)) → List (Nat × (Ty × Nat)) → Bool
  | [], [] => true
  | (x, (a, b)) :: l, (y, (c, d)) :: m => Nat.beq x y && (tEq a c && ((leK d b && (match d with | 1 => Nat.beq b 1 || (Nat.blt x 100000 || Nat.ble 400000 x) | _ => true)) && eqRs l m))
  | _, _ => false
def eqSk (a b : Sk) : Bool := eqTm a.tm b.tm && (eqVs a.vs b.vs && eqRs a.rs b.rs)

/-! ### loops -/
def rowsIn : List Cv → List Nat → List Nat
  | [], acc => acc
  | x :: l, acc => match x.row with
    | some r => match idxO r 0 acc with
      | some _ => rowsIn l acc
      | none => rowsIn l (acc ++ [r])
    | none => rowsIn l acc
def allIn : List Nat → List Nat → Bool
  | [], _ => true
  | x :: l, m => match idxO x 0 m with | some _ => allIn l m | none => false
def rnCv (ρ : List (Nat × Nat)) (vk : List Nat) (x : Cv) : Cv := match x with
  | .sw r => match lk ρ r with | some k => .sw k | none => .un
  | .sl r a b => match lk ρ r with | some k => .sl k a b | none => .un
  | .nw r a b => match lk ρ r with | some k => .nw k a b | none => .un
  | .ns r a b c d => match lk ρ r with | some k => .ns k a b c d | none => .un
  | .pe r a b => match lk ρ r with | some k => .pe k a b | none => .un
  | .pn r a b c d => match lk ρ r with | some k => .pn k a b c d | none => .un
  | .pv v _ => match idxO v 0 vk with | some _ => x | none => .un
  | .fn _ caps => match allIn caps vk with | true => x | false => .un
  | x => x
/-- is the key of a row that came in kept? -/
def keepK (r : Nat) (row : Row) : Bool := match Nat.ble 100000 r, Nat.ble r 299999, Nat.ble r 399999, row.ow with
  | true, false, true, 1 => true
  | true, true, _, 1 => false
  | true, true, _, 3 => false
  | true, true, _, _ => true
  | _, _, _, _ => false
/-- nil slices are rows of their own, of nothing; what is not written is a row of its own, too: k is the next key -/
def Lk.nlC (m : Lk) (k : Nat) (x : Cv) : Cv × List (Nat × Row) := match x with
  | .nl τ => (.sw k, [(k, ⟨τ, [], 5⟩)])
  | .sw r => match m.r r with
    | some row => match keepK r row, row.ow with
      | false, 1 => (.sw k, [(k, row)])
      | false, 3 => (.sw k, [(k, row)])
      | _, _ => (x, [])
    | none => (x, [])
  | .sl .. | .nw .. | .ns .. => match m.immC x, (m.vw x).ct with
    | true, some (.l τ ys) => (.sw k, [(k, ⟨τ, ys, match x.row with | some r => (match m.r r with | some row => row.ow | none => 1) | none => 1⟩)])
    | _, _ => (x, [])
  | x => (x, [])
def Lk.nlL (m : Lk) : Nat → List Cv → List Cv × List (Nat × Row)
  | _, [] => ([], [])
  | k, x :: l => match m.nlC k x, m.nlL (k + 1) l with
    | (y, r), (cs, rs) => (y :: cs, r ++ rs)
def Lk.nlTm (m : Lk) : Nat → List (Nat × AV) → List (Nat × AV) × List (Nat × Row)
  | _, [] => ([], [])
  | k, (t, .c x) :: l => match m.nlC k x, m.nlTm (k + 64) l with
    | (y, r), (n, rs) => ((t, .c y) :: n, r ++ rs)
  | k, (t, .a x) :: l => match m.nlL k x, m.nlTm (k + 64) l with
    | (y, r), (n, rs) => ((t, .a y) :: n, r ++ rs)
  | k, p :: l => match m.nlTm (k + 64) l with | (n, rs) => (p :: n, rs)
def Lk.nlVs (m : Lk) : Nat → List (Nat × List Cv) → List (Nat × List Cv) × List (Nat × Row)
  | _, [] => ([], [])
  | k, (v, x) :: l => match m.nlL k x, m.nlVs (k + 64) l with
    | (y, r), (n, rs) => ((v, y) :: n, r ++ rs)
def pickT (s : St) : List Nat → List (Nat × AV)
  | [] => []
  | t :: l => (t, dropG (s.get t)) :: pickT s l
def pickVs (vs : List (Nat × List Cv)) : List Nat → List (Nat × List Cv)
  | [] => []
  | v :: l => match lk vs v with | some cs => (v, cs) :: pickVs vs l | none => pickVs vs l
def renOf (rs : List (Nat × Row)) : Nat → List Nat → List (Nat × Nat)
  | _, [] => []
  | k, r :: l => match lk rs r with
    | some row => (r, match keepK r row with | true => r | false => 500000 + k) :: renOf rs (k + 1) l
    | none => renOf rs (k + 1) l
def rowsNew (rs : List (Nat × Row)) : List (Nat × Nat) → List (Nat × Row)
  | [] => []
  | (r, k) :: l => match lk rs r with
    | some row => (k, row) :: rowsNew rs l
    | none => rowsNew rs l
def tmCs : List (Nat × AV) → List Cv
  | [] => []
  | (_, v) :: l => v.cvs ++ tmCs l
def mapTm (f : Cv → Cv) : List (Nat × AV) → List (Nat × AV)
  | [] => []
  | (k, v) :: l => (k, mapV f v) :: mapTm f l
def mapVs (f : Cv → Cv) : List (Nat × List Cv) → List (Nat × List Cv)
  | [] => []
  | (k, v) :: l => (k, fmap f v) :: mapVs f l
/-- only these temporaries, these variables, and the rows that they point to -/
def freeze (fz : List Nat) : List (Nat × Row) → List (Nat × Row)
  | [] => []
  | (k, row) :: l => match hasN k fz && (Nat.ble 1 row.ow && Nat.ble row.ow 5), Nat.ble 300000 k && (Nat.ble k 399999 && Nat.beq row.ow 2) with
    | true, false => (k, { row with ow := fzK row.ow }) :: freeze fz l
    | _, _ => (k, row) :: freeze fz l
def kindsOk : List (Nat × Row) → Bool
  | [] => true
  | (_, row) :: l => (Nat.ble 1 row.ow && Nat.ble row.ow 5) && kindsOk l
/-- the rows of these temporaries are not written any more -/
def St.freeze (s : St) (fz : List Nat) : St := match fz with
  | [] => s
  | _ => { s with rs := Soft.freeze (rksA (fmap s.get fz)) s.rs }
def St.prune (s : St) (ts vk : List Nat) : St :=
  match s.lk.nlTm 600000 (pickT s ts), s.lk.nlVs 700000 (pickVs s.vs vk) with
  | (tm, r1), (vs, r2) => match nodupN (keys (r1 ++ r2)) && (disjN (keys (r1 ++ r2)) (keys s.rs) && kindsOk s.rs) with
    | false => ⟨[], [], []⟩
    | true =>
      let rs := r1 ++ (r2 ++ s.rs)
      let ρ := renOf rs 0 (rowsIn (vcs vs) (rowsIn (tmCs tm) []))
      ⟨mapTm (rnCv ρ (keys vs)) tm, mapVs (rnCv ρ (keys vs)) vs, rowsNew rs ρ⟩

/-- of a loop: the temporaries and variables that are looked at behind its head; the state there; by the way that it is left (0: a return, n + 1: exit n) what is looked at there; the temporaries whose slices are not
    written any more -/
structure Ann where
  ts : List Nat
  vk : List Nat
  sk : List Sk
  out : List (Nat × (List Nat × List Nat))
  fz : List Nat
abbrev Live := List (Nat × Ann)
def Ex.num : Ex → Nat
  | .normal => 0 | .ret => 0 | .exit i => i + 1
def Ann.leave (A : Ann) (e : Ex) (s : St) : St := match lk A.out e.num with
  | some (ts, vk) => s.prune ts vk
  | none => s
/-- the number of the first region -/
def loopId : Code → Nat
  | .region id _ _ => id
  | .seq a _ => loopId a
  | .block _ c => loopId c
  | .loop c => loopId c
  | _ => 0

/-- by the number of a loop -/
abbrev Loop (R : Type) := Nat → Nat → List Val → (Ex → St → Option R) → Option R

def formOf (k : Sk) : Nat → List Sk → Option Nat
  | _, [] => none
  | i, s :: l => match eqSk k s with | true => some i | false => formOf k (i + 1) l

def exec {R : Type} (X : Ctx) (E : Env R) (L : Live) (lp : Loop R) : Code → St → (Ex → St → Option R) → Option R
  | .skip, s, K => K .normal s
  | .region _ ops draw, s, K => execReg X E ops draw s (K .normal)
  | .seq a b, s, K => exec X E L lp a s fun e s' => match e with
    | .normal => exec X E L lp b s' K
    | e => K e s'
  | .cond c a b, s, K => match X.opnd s [] 0 c with
    | .c (.b x) => bif x then exec X E L lp a s K else exec X E L lp b s K
    | _ => none
  | .block id c, s, K => exec X E L lp c s fun e s' => match e with
    | .exit i => match Nat.beq i id with
      | true => K .normal s'
      | false => K e s'
    | e => K e s'
  | .loop c, s, K => match lk L (loopId c) with
    | none => none
    | some A => match flat ((s.freeze A.fz).prune A.ts A.vk) with
      | (k, l) => match formOf k 0 A.sk with
        | some i => lp (loopId c) i l K
        | none => none
  | .exit id, s, K => K (.exit id) s
  | .ret, s, K => K .ret s
  | _, _, _ => none

/-- one round of a loop -/
def round {R : Type} (X : Ctx) (E : Env R) (L : Live) (lp : Loop R) (c : Code) (i : Nat) (l : List Val) (K : Ex → St → Option R) : Option R :=
  match lk L (loopId c) with
  | none => none
  | some A => match (match nth A.sk i with | some k => unflat k l | none => none) with
    | none => none
    | some s => exec X E L lp c s fun e s' => match e with
      | .normal => exec X E L lp (.loop c) s' K
      | e => K e (A.leave e s')
/-! ### a function -/
/-- of what kind is a row that is given -/
def kd (w m : Nat) : Nat := match w with | 0 => (match m with | 0 => 1 | m => m) | w => w
def entC (k : Nat) (w : Nat) (ms : List Nat) : Nat → List Ct → List Cv × List (Nat × Row)
  | _, [] => ([], [])
  | j, y :: ys => match entC k w (tl ms) (j + 1) ys with
    | (cs, rs) => match y with
      | .u => (.un :: cs, rs) | .b x => (.b x :: cs, rs) | .i a n => (.i a n :: cs, rs) | .s x => (.s x :: cs, rs)
      | .l τ xs => (.sw (k + j) :: cs, (k + j, ⟨τ, xs, kd w (hd ms)⟩) :: rs)
def entA (am : List Nat) : Nat → List AC → List AV × List (Nat × Row)
  | _, [] => ([], [])
  | p, x :: l => match entA (tl am) (p + 1) l with
    | (vs, rs) =>
      let w : Nat := kd 0 (hd am)
      match x with
      | .c y => match entC (100000 + p * 64) w [] 0 [y] with
        | ([c], r) => (.c c :: vs, r ++ rs)
        | _ => (.c .un :: vs, rs)
      | .a ys => match entC (100000 + p * 64) w [] 0 ys with
        | (cs, r) => (.a cs :: vs, r ++ rs)
      | .p k => (.c (.pv k 0) :: vs, rs)
      | .f g ks => (.c (.fn g ks) :: vs, rs)
      | .al k c => (.c (.sw (300000 + k * 64 + c)) :: vs, rs)
      | .io τ xs => (.c (.sw (200000 + p * 64)) :: vs, (200000 + p * 64, ⟨τ, xs, 5⟩) :: rs)
def entV : Nat → List (List Nat) → List (List Ct) → List (Nat × List Cv) × List (Nat × Row)
  | _, _, [] => ([], [])
  | k, ms, l :: vin => match entV (k + 1) (tl ms) vin, entC (300000 + k * 64) 0 (hdL ms) 0 l with
    | (vs, rs), (cs, r) => ((k, cs) :: vs, r ++ rs)
def zipT : Nat → List AV → List (Nat × AV)
  | _, [] => []
  | n, v :: l => (n, v) :: zipT (n + 1) l
def entry (g : Sig) (acs : List AC) (vin : List (List Ct)) : St :=
  match entA g.am 0 acs, entV 0 g.vl vin with
  | (as, rs), (vs, rs') => ⟨zipT 0 as, vs, rs ++ rs'⟩

/-- the key of an argument's cell: which argument, which cell -/
def keyA (r : Nat) : Option (Nat × Nat) := match Nat.ble 100000 r, Nat.ble r 199999 with
  | true, true => some ((r - 100000) / 64, (r - 100000) % 64)
  | _, _ => none
/-- is it a row that is borrowed? -/
def Lk.bor1 (m : Lk) (r : Nat) : Bool := match m.r r with | some row => Nat.beq row.ow 1 | none => false
/-- the rows that a result shares -/
def shCs : List Nat → List Cv → List Nat
  | _, [] => []
  | ms, x :: l => (match hd ms with | 1 => x.rk | _ => []) ++ shCs (tl ms) l
def shTs : List (List Nat) → List (Bool × List Cv) → List Nat
  | _, [] => []
  | ms, (_, x) :: l => shCs (hdL ms) x ++ shTs (tl ms) l
def Lk.shR (m : Lk) (rl : List (List Nat)) : AV → List Nat
  | .c x => match x with
    | .pv v _ => match m.v v with | some cs => shCs (hdL rl) cs | none => []
    | x => shCs (hdL rl) [x]
  | .a l => shCs (hdL rl) l
  | .t l => shTs rl l
  | .g .. => []
/-- what a result's cell is; the row that is given with it -/
def Lk.outC (m : Lk) (w : Nat) (x : Cv) : Option (Rc × List Nat) := match x with
  | .b y => some (.c (.b y), []) | .i k n => some (.c (.i k n), []) | .s y => some (.c (.s y), [])
  | .un => match w with
    | 7 => some (.un, [])
    | _ => none
  | .nl τ => match w with
    | 1 => some (.m (.l τ []), [])
    | 7 => some (.un, [])
    | w => match hdK w with | true => some (.c (.l τ []), []) | false => none
  | x => match w with
    | 1 => match (m.vw x).ct with | some y => some (.m y, []) | none => none
    | 7 => some (.un, [])
    | 6 => match x with
      | .sw r => match keyA r, m.bor1 r with | some (p, j), true => some (.aw p j, []) | _, _ => none
      | .nw r e c => match keyA r, m.bor1 r with | some (p, j), true => some (.al p j e c, []) | _, _ => none
      | _ => none
    | w => match x with
      | .sw r => match m.r r with
        | some row => match hdK w, leK w row.ow with
          | true, true => some (.c (.l row.τ row.xs), [r])
          | _, _ => none
        | none => none
      | .sl r 0 len => match m.r r with
        | some row => match hdK w, leK w row.ow with
          | true, true => some (.c (.l row.τ (sub row.xs 0 len)), [r])
          | _, _ => none
        | none => none
      | _ => none
def Lk.outCs (m : Lk) : List Nat → List Cv → Option (List Rc × List Nat)
  | _, [] => some ([], [])
  | ms, x :: l => match m.outC (hd ms) x, m.outCs (tl ms) l with
    | some (y, a), some (ys, b) => some (y :: ys, a ++ b)
    | _, _ => none
def Lk.outTs (m : Lk) : List (List Nat) → List (Bool × List Cv) → Option (List (Bool × List Rc) × List Nat)
  | _, [] => some ([], [])
  | ms, (b, x) :: l => match m.outCs (hdL ms) x, m.outTs (tl ms) l with
    | some (y, a), some (ys, c) => some ((b, y) :: ys, a ++ c)
    | _, _ => none
def Lk.outR (m : Lk) (rl : List (List Nat)) : AV → Option (RC × List Nat)
  | .c x => match x with
    | .pv v c => match Nat.ble 1000 v, Nat.beq c 0, m.v v with
      | true, true, some cs => match m.outCs (hdL rl) cs with | some (y, a) => some (.np y, a) | none => none
      | _, _, _ => none
    | .un => none
    | x => match m.outC (hd (hdL rl)) x with | some (y, a) => some (.c y, a) | none => none
  | .a l => match m.outCs (hdL rl) l with | some (y, a) => some (.a y, a) | none => none
  | .t l => match l with
    | [] => some (.u, [])
    | _ => match m.outTs rl l with | some (y, a) => some (.t y, a) | none => none
  | .g .. => none
/-- a variable's cells at the end: what came in as it is stays what it was -/
def Lk.outV (m : Lk) (k : Nat) : Nat → List Nat → List Cv → Option (List Ct × List Nat)
  | _, _, [] => some ([], [])
  | j, ms, x :: l => match m.outV k (j + 1) (tl ms) l with
    | none => none
    | some (ys, a') => match hd ms with
      | 0 => match x with
        | .b y => some (.b y :: ys, a') | .i k n => some (.i k n :: ys, a') | .s y => some (.s y :: ys, a')
        | _ => none
      | 1 => match x with
        | .sw r => match Nat.beq r (300000 + k * 64 + j) && (Nat.ble r 399999 && m.bor1 r), m.ct x with
          | true, some y => some (y :: ys, a')
          | _, _ => none
        | _ => none
      | w => match x with
        | .nl τ => match hdK w with | true => some (.l τ [] :: ys, a') | false => none
        | .sw r => match m.r r with
          | some row => match hdK w, leK w row.ow with
            | true, true => some (.l row.τ row.xs :: ys, r :: a')
            | _, _ => none
          | none => none
        | _ => none
def Lk.outVs (m : Lk) : Nat → List (List Nat) → Option (List (List Ct) × List Nat)
  | _, [] => some ([], [])
  | k, w :: ms => match m.v k, m.outVs (k + 1) ms with
    | some cs, some (ys, a') => match m.outV k 0 w cs with
      | some (y, a) => some (y :: ys, a ++ a')
      | none => none
    | _, _ => none
def Lk.outIo (m : Lk) : Nat → List AC → Option (List Ct × List Nat)
  | _, [] => some ([], [])
  | p, .io τ _ :: l => match m.r (200000 + p * 64), m.outIo (p + 1) l with
    | some row, some (ys, a) => match Nat.beq row.ow 5 && Nat.ble p 1500, tEq row.τ τ with
      | true, true => some (.l row.τ row.xs :: ys, (200000 + p * 64) :: a)
      | _, _ => none
    | _, _ => none
  | p, _ :: l => m.outIo (p + 1) l

/-- the value of the result variables -/
def resV1 (X : Ctx) (s : St) : ResultVar → Option AV
  | .tmp t => some (s.get t)
  | .cell t T => match s.get t with
    | .c a => match s.lk.from a with
      | some cs => match Nat.ble (szOf X.P T) cs.length && ldOk X.P T with
        | true => some (mkA (isAg X.P T) (cs.take (szOf X.P T)))
        | false => none
      | none => none
    | _ => none
def resVs (X : Ctx) (s : St) : List ResultVar → Option (List (Bool × List Cv))
  | [] => some []
  | r :: l => match resV1 X s r, resVs X s l with
    | some (.c .un), _ => none
    | some (.c x), some m => some ((false, [x]) :: m)
    | some (.a x), some m => some ((true, x) :: m)
    | _, _ => none
def resV (X : Ctx) (s : St) : List ResultVar → Option AV
  | [r] => resV1 X s r
  | l => match resVs X s l with | some m => some (.t m) | none => none

def St.out (X : Ctx) (g : Sig) (acs : List AC) (f : Func) (s : St) : Option CR :=
  match resV X s f.results.toList with
  | none => none
  | some v => match s.lk.outR g.rl v, s.lk.outVs 0 g.vl, s.lk.outIo 0 acs with
    | some (rc, a), some (vo, b), some (io, c) => match nodupN (a ++ (b ++ c)) && (disjN (s.lk.shR g.rl v) (a ++ (b ++ c)) && Nat.ble g.vl.length 1000) with
      | true => some ⟨rc, vo, io⟩
      | false => none
    | _, _, _ => none

/-- what a function comes to -/
def fnRun {R : Type} (X : Ctx) (E : Env R) (L : Live) (lp : Loop R) (g : Sig) (f : Func) (acs : List AC) (vin : List (List Ct)) (k : CR → Option R) : Option R :=
  match f.body with
  | none => none
  | some c => exec (X.at f) E L lp c (entry g acs vin) fun e s => match e with
    | .exit _ => none
    | _ => match s.out X g acs f with | some r => k r | none => none

/-- a loop of a body, by its number -/
def getLoop (n : Nat) : Code → Option Code
  | .loop c => match Nat.beq (loopId c) n with | true => some c | false => getLoop n c
  | .seq a b => match getLoop n a with | some c => some c | none => getLoop n b
  | .cond _ a b => match getLoop n a with | some c => some c | none => getLoop n b
  | .block _ a => getLoop n a
  | _ => none

end Go.Soft
