import Derived.Laws.AppendOwn
import Derived.KernelRfl
import Derived.Laws.Slices
import Derived.Laws.BytesString
import Derived.Laws.StructEq
import Derived.Great.BuildSlice
import Derived.Laws.OwnMore
set_option linter.constructorNameAsVariable false
set_option linter.unusedVariables false
set_option linter.unusedSimpArgs false
namespace Go.Soft
structure Slot where
 Name:ByteArray
 Ino:Int
structure Inode where
 Kind:Int
 Links:Int
 Ptrs:List Int
structure Block where
 Dir:Bool
 Slots:List Slot
 Text:ByteArray
structure Dep where
 Id:Int
 Kind:Int
 Ino:Int
 Ptr:Int
 Block:Int
 Slot:Int
 Name:ByteArray
 Bits:Bool
 Other:Bool
 After:Int
 Blocks:List Int
structure Node where
 Path:ByteArray
 Dir:Bool
 Head:ByteArray
 Tail:ByteArray
structure Event where
 Kind:Int
 Path:ByteArray
 To:ByteArray
 At:Int
 Text:ByteArray
inductive Ty | int | bool | byte | str | slot | inode | block | dep | node | event
abbrev El:Ty->Type
 | .int=>Int | .bool=>Bool | .byte=>UInt8 | .str=>ByteArray | .slot=>Slot | .inode=>Inode
 | .block=>Block | .dep=>Dep | .node=>Node | .event=>Event
inductive Ct
 | u | b (x:Bool) | i (k:IntKind) (n:Int) | s (x:ByteArray) | l (τ:Ty) (xs:List (El τ))
def dflt:(τ:Ty)->El τ
 | .int=>0 | .bool=>false | .byte=>0 | .str=> .empty | .slot=>⟨.empty,0⟩ | .inode=>⟨0,0,[]⟩ | .block=>⟨false,[],.empty⟩
 | .dep=>⟨0,0,0,0,0,0,.empty,false,false,0,[]⟩ | .node=>⟨.empty,false,.empty,.empty⟩ | .event=>⟨0,.empty,.empty,0,.empty⟩
def cells:(τ:Ty)->El τ->List Ct
 | .int,n=>[.i .i64 n]
 | .bool,x=>[.b x]
 | .byte,x=>[.i .u8 (x.toNat:Int)]
 | .str,x=>[.s x]
 | .slot,x=>[.s x.Name,.i .i64 x.Ino]
 | .inode,x=>[.i .i64 x.Kind,.i .i64 x.Links,.l .int x.Ptrs]
 | .block,x=>[.b x.Dir,.l .slot x.Slots,.s x.Text]
 | .dep,x=>[.i .i64 x.Id,.i .i64 x.Kind,.i .i64 x.Ino,.i .i64 x.Ptr,.i .i64 x.Block,.i .i64 x.Slot,.s x.Name,.b x.Bits,.b x.Other,.i .i64 x.After,.l .int x.Blocks]
 | .node,x=>[.s x.Path,.b x.Dir,.s x.Head,.s x.Tail]
 | .event,x=>[.i .i64 x.Kind,.s x.Path,.s x.To,.i .i64 x.At,.s x.Text]
def sz:Ty->Nat
 | .int=>1 | .bool=>1 | .byte=>1 | .str=>1 | .slot=>2 | .inode=>3 | .block=>3 | .dep=>11 | .node=>4 | .event=>5
def mkEl:(τ:Ty)->List Ct->Option (El τ)
 | .int,[.i .i64 n]=>some n
 | .bool,[.b x]=>some x
 | .byte,[.i .u8 n]=>some (UInt8.ofNat n.toNat)
 | .str,[.s x]=>some x
 | .slot,[.s n,.i .i64 i]=>some ⟨n,i⟩
 | .inode,[.i .i64 k,.i .i64 l,.l .int p]=>some ⟨k,l,p⟩
 | .block,[.b d,.l .slot s,.s t]=>some ⟨d,s,t⟩
 | .dep,[.i .i64 a,.i .i64 b,.i .i64 c,.i .i64 d,.i .i64 e,.i .i64 f,.s g,.b h,.b i,.i .i64 j,.l .int k]=>some ⟨a,b,c,d,e,f,g,h,i,j,k⟩
 | .node,[.s a,.b b,.s c,.s d]=>some ⟨a,b,c,d⟩
 | .event,[.i .i64 a,.s b,.s c,.i .i64 d,.s e]=>some ⟨a,b,c,d,e⟩
 | _,_=>none
def okEl:Ty->List Ct->Bool
 | .byte,[.i .u8 n]=>decide (0<=n)&&decide (n<256)
 | _,_=>true
def Ty.isByte:Ty->Bool
 | .byte=>true
 | _=>false
def Ty.deep:Ty->Bool
 | .inode | .block | .dep=>true
 | _=>false
inductive Cv
 | un | b (x:Bool) | i (k:IntKind) (n:Int) | s (x:ByteArray)
 | nl (τ:Ty)
 | sw (r:Nat) | sl (r off len:Nat)
 | nw (r e c:Nat) | ns (r e c off len:Nat)
 | pv (v c:Nat) | pe (r e c:Nat) | pn (r e c k d:Nat)
 | fn (f:Nat) (caps:List Nat)
inductive AV
 | c (x:Cv) | a (l:List Cv) | t (l:List (Bool×List Cv))
 | g (p:List (Nat×Bool)) (q:Bool) (v:AV)
structure Row where
 τ:Ty
 xs:List (El τ)
 ow:Nat
structure St where
 tm:List (Nat×AV)
 vs:List (Nat×List Cv)
 rs:List (Nat×Row)
def ownK (w:Nat):Bool:=match w with | 2=>true | 4=>true | 5=>true | _=>false
def leK (d a:Nat):Bool:=match d with
 | 1=>true
 | 2=>ownK a
 | 3=>(match a with | 3=>true | 4=>true | 5=>true | _=>false)
 | 4=>(match a with | 4=>true | 5=>true | _=>false)
 | 5=>(match a with | 5=>true | _=>false)
 | _=>false
def hdK (w:Nat):Bool:=match w with | 3=>true | 4=>true | 5=>true | _=>false
def lvK (w:Nat):Nat:=match w with | 3=>4 | _=>2
def fzK (w:Nat):Nat:=match w with | 1=>1 | 2=>1 | _=>3
def lk {α:Type}:List (Nat×α)->Nat->Option α
 | [],_=>none
 | (k,v)::l,n=>match Nat.beq k n with
  | true=>some v
  | false=>lk l n
def rmv {α:Type} (n:Nat):List (Nat×α)->List (Nat×α)
 | []=>[]
 | (k,v)::l=>match Nat.beq k n with
  | true=>rmv n l
  | false=>(k,v)::rmv n l
def repK {α:Type} (n:Nat) (v:α):List (Nat×α)->List (Nat×α)
 | []=>[]
 | (k,u)::l=>match Nat.beq k n with
  | true=>(k,v)::repK n v l
  | false=>(k,u)::repK n v l
def put {α:Type} (l:List (Nat×α)) (n:Nat) (v:α):List (Nat×α) :=
 match lk l n with
 | some _=>repK n v l
 | none=>(n,v)::l
def hasN (n:Nat):List Nat->Bool
 | []=>false
 | k::l=>match Nat.beq k n with
  | true=>true
  | false=>hasN n l
def nth {α:Type}:List α->Nat->Option α
 | [],_=>none
 | x::_,0=>some x
 | _::l,n+1=>nth l n
def fmap {α β:Type} (f:α->β):List α->List β
 | []=>[]
 | x::l=>f x::fmap f l
def isPre:List (Nat×Bool)->List (Nat×Bool)->Bool
 | [],_=>true
 | _::_,[]=>false
 | (a,x)::l,(b,y)::m=>Nat.beq a b&&((match x,y with | true,true | false,false=>true | _,_=>false)&&isPre l m)
structure Ctx where
 P:Program
 ty:List (Nat×Ty)
 id:Ty->TypeId
 eqs:List (Nat×List Ct)
 nt:Nat
def Ctx.at (X:Ctx) (f:Func):Ctx:={ X with nt:=f.ntmps }
def Ctx.tyOf (X:Ctx) (t:TypeId):Option Ty:=lk X.ty t
def isAg (P:Program) (t:TypeId):Bool:=match P.underlying t with | some (.struct _) | some (.array ..)=>true | _=>false
def szOf (P:Program) (t:TypeId):Nat:=match P.info? t with | some i=>i.size | none=>0
def ldOk (P:Program) (t:TypeId):Bool:=match P.underlying t with | some (.struct _)=>true | some (.array ..)=>true | some _=>Nat.beq (szOf P t) 1 | none=>false
def fOff (P:Program) (t:TypeId) (f:Nat):Option Nat:=match P.underlying t with | some (.struct fs)=>(match fs[f]? with | some x=>some x.offset | none=>none) | _=>none
def fTy (P:Program) (t:TypeId) (f:Nat):TypeId:=match P.underlying t with | some (.struct fs)=>(match fs[f]? with | some x=>x.type | none=>0) | _=>0
def elId (P:Program) (t:TypeId):Option TypeId:=match P.underlying t with | some (.slice e)=>some e | _=>none
def Ctx.elTy (X:Ctx) (t:TypeId):Option Ty:=match elId X.P t with | some e=>X.tyOf e | none=>none
def Ctx.elOwn (X:Ctx) (t:TypeId):Option Ty:=match elId X.P t with
 | some e=>match X.tyOf e with
  | some τ=>match Nat.beq (X.id τ) e with | true=>some τ | false=>none
  | none=>none
 | none=>none
def Ctx.cst (X:Ctx) (t:TypeId):Value->Cv
 | .bool b=> .b b
 | .int k n=> .i k n
 | .string s=> .s s
 | .slice none 0 0=>match X.elTy t with | some τ=> .nl τ | none=> .un
 | _=> .un
def Ctx.zeros (X:Ctx):Nat->TypeId->Option (List Cv)
 | 0,_=>none
 | d+1,t=>match X.P.underlying t with
  | some .bool=>some [.b false]
  | some (.int k)=>some [.i k 0]
  | some .string=>some [.s .empty]
  | some (.slice e)=>match X.tyOf e with | some τ=>some [.nl τ] | none=>some [.un]
  | some (.struct fs)=>zs (X.zeros d) fs.toList
  | _=>none
 where zs (f:TypeId->Option (List Cv)):List Field->Option (List Cv)
 | []=>some []
 | x::l=>match f x.type,zs f l with
  | some a,some b=>some (a++b)
  | _,_=>none
def kEq:IntKind->IntKind->Bool
 | .i8,.i8 | .i16,.i16 | .i32,.i32 | .i64,.i64 | .u8,.u8 | .u16,.u16 | .u32,.u32 | .u64,.u64=>true
 | _,_=>false
def zEq:Cv->Value->Bool
 | .un,.agg _=>false
 | .un,.tuple _=>false
 | .un,_=>true
 | .b false,.bool false=>true
 | .i k n,.int k' n'=>kEq k k'&&(match n,n' with | .ofNat 0,.ofNat 0=>true | _,_=>false)
 | .s x,.string y=>Nat.beq x.size 0&&Nat.beq y.size 0
 | .nl _,.slice none 0 0=>true
 | _,_=>false
def zEqs:List Cv->List Value->Bool
 | [],[]=>true
 | x::l,y::m=>zEq x y&&zEqs l m
 | _,_=>false
def plAll (P:Program):List Field->Bool
 | []=>true
 | f::l=>match P.info? f.type with | some _=>plAll P l | none=>false
def plOk (P:Program) (t:TypeId):Bool:=match P.underlying t with | some (.struct fs)=>plAll P fs.toList | _=>false
def Ctx.zero (X:Ctx) (t:TypeId):Option (List Cv):=match X.zeros 8 t,X.P.info? t with
 | some cs,some i=>match i.zero with
  | some z=>match zEqs cs z.cells.toList with | true=>some cs | false=>none
  | none=>none
 | _,_=>none
def St.get (s:St) (t:Nat):AV:=match lk s.tm t with | some v=>v | none=> .c .un
def St.put (s:St) (d:Option Nat) (v:AV):St:=match d with | some d=>{ s with tm:=(d,v)::s.tm } | none=>s
def Ctx.opnd (X:Ctx) (s:St) (p:List (Nat×Bool)) (ty:TypeId):Operand->AV
 | .tmp t=>match s.get t with
  | .g p' _ v=>match isPre p' p with | true=>v | false=> .c .un
  | v=>v
 | .const v=> .c (X.cst ty v)
 | .func f=> .c (.fn f [])
 | .global _=> .c .un
structure Lk where
 r:Nat->Option Row
 v:Nat->Option (List Cv)
def St.lk (s:St):Lk:=⟨Soft.lk s.rs,Soft.lk s.vs⟩
def cvOf (r e:Nat) (c:Nat):Ct->Cv
 | .u=> .un | .b x=> .b x | .i k n=> .i k n | .s x=> .s x | .l _ _=> .nw r e c
def cvsOf (r e:Nat):Nat->List Ct->List Cv
 | _,[]=>[]
 | c,x::l=>cvOf r e c x::cvsOf r e (c+1) l
def Row.cs (row:Row) (e:Nat):List Ct:=cells row.τ (row.xs.getD e (dflt row.τ))
inductive Vw
 | no | w (τ:Ty) (xs:List (El τ)) | p (τ:Ty) (xs:List (El τ)) (off len:Nat)
def Lk.vw (m:Lk):Cv->Vw
 | .nl τ=> .w τ []
 | .sw r=>match m.r r with | some row=> .w row.τ row.xs | none=> .no
 | .sl r off len=>match m.r r with | some row=> .p row.τ row.xs off len | none=> .no
 | .nw r e c=>match m.r r with
  | some row=>match nth (row.cs e) c with | some (.l τ ys)=> .w τ ys | _=> .no
  | none=> .no
 | .ns r e c off len=>match m.r r with
  | some row=>match nth (row.cs e) c with | some (.l τ ys)=> .p τ ys off len | _=> .no
  | none=> .no
 | _=> .no
def sub {α:Type} (xs:List α) (off len:Nat):List α:=(xs.drop off).take len
def Vw.ct:Vw->Option Ct
 | .no=>none
 | .w τ xs=>some (.l τ xs)
 | .p τ xs off len=>some (.l τ (sub xs off len))
def Vw.len:Vw->Option Nat
 | .no=>none
 | .w _ xs=>some xs.length
 | .p _ _ _ len=>some len
def Lk.ct (m:Lk):Cv->Option Ct
 | .un=>some .u | .b x=>some (.b x) | .i k n=>some (.i k n) | .s x=>some (.s x)
 | c=>(m.vw c).ct
def Lk.cts (m:Lk):List Cv->Option (List Ct)
 | []=>some []
 | c::l=>match m.ct c with
  | some x=>match m.cts l with | some y=>some (x::y) | none=>none
  | none=>none
def Lk.from (m:Lk):Cv->Option (List Cv)
 | .pv v c=>match m.v v with | some cs=>some (cs.drop c) | none=>none
 | .pe r e c=>match m.r r with | some row=>some ((cvsOf r e 0 (row.cs e)).drop c) | none=>none
 | .pn r e c k d=>match m.vw (.nw r e c) with
  | .w τ ys=>match τ.deep with
   | true=>none
   | false=>some ((cvsOf 0 0 0 (cells τ (ys.getD k (dflt τ)))).drop d)
  | _=>none
 | _=>none
structure Dl where
 mv:List (Nat×(Nat×Nat×Nat))
 kr:List Nat
 ke:List Nat
 kn:List Nat
 kv:List Nat
 rs:List (Nat×Option Row)
 vs:List (Nat×List Cv)
def Dl.z:Dl:=⟨[],[],[],[],[],[],[]⟩
def Cv.row:Cv->Option Nat
 | .sw r | .sl r _ _ | .nw r _ _ | .ns r _ _ _ _ | .pe r _ _ | .pn r _ _ _ _=>some r
 | _=>none
def Cv.inner:Cv->Bool
 | .nw .. | .ns .. | .pn .. =>true
 | _=>false
def anyN (l m:List Nat):Bool:=match l with
 | []=>false
 | x::l=>match hasN x m with | true=>true | false=>anyN l m
def Dl.map (δ:Dl) (x:Cv):Cv:=match x with
 | .pv v _=>match hasN v δ.kv with | true=> .un | false=>x
 | .fn _ caps=>match anyN caps δ.kv with | true=> .un | false=>x
 | .sw r=>match Soft.lk δ.mv r with
  | some (d,e,c)=> .nw d e c
  | none=>match hasN r δ.kr with | true=> .un | false=>x
 | .sl r o n=>match Soft.lk δ.mv r with
  | some (d,e,c)=> .ns d e c o n
  | none=>match hasN r δ.kr,hasN r δ.ke with | false,false=>x | _,_=> .un
 | .pe r k a=>match Soft.lk δ.mv r with
  | some (d,e,c)=> .pn d e c k a
  | none=>match hasN r δ.kr,hasN r δ.ke with | false,false=>x | _,_=> .un
 | .nw r _ _ | .ns r _ _ _ _ | .pn r _ _ _ _=>match Soft.lk δ.mv r with
  | some _=> .un
  | none=>match hasN r δ.kr,hasN r δ.ke,hasN r δ.kn with | false,false,false=>x | _,_,_=> .un
 | x=>x
def mapV (f:Cv->Cv):AV->AV
 | .c x=> .c (f x)
 | .a l=> .a (l.map f)
 | .t l=> .t (l.map fun p=>(p.1,p.2.map f))
 | .g p q v=> .g p q (mapV f v)
def asgR (l:List (Nat×Row)):List (Nat×Option Row)->List (Nat×Row)
 | []=>l
 | (k,some row)::m=>asgR (Soft.put l k row) m
 | (k,Option.none)::m=>asgR (rmv k l) m
def asgV (l:List (Nat×List Cv)):List (Nat×List Cv)->List (Nat×List Cv)
 | []=>l
 | (k,cs)::m=>asgV (Soft.put l k cs) m
def Dl.quiet (δ:Dl):Bool:=match δ.mv,δ.kr,δ.ke,δ.kn,δ.kv with
 | [],[],[],[],[]=>true
 | _,_,_,_,_=>false
def St.app (s:St) (δ:Dl):St:=match δ.quiet with
 | true=>⟨s.tm,asgV s.vs δ.vs,asgR s.rs δ.rs⟩
 | false=>⟨s.tm.map fun p=>(p.1,mapV δ.map p.2),asgV (s.vs.map fun p=>(p.1,p.2.map δ.map)) δ.vs,asgR s.rs δ.rs⟩
structure Ab where
 ct:Ct
 mv:Option Nat
 sh:Option (Nat×Nat)
 lv:Nat
def Lk.absorb (m:Lk) (x:Cv):Option Ab :=
 match x with
 | .b y=>some ⟨.b y,none,none,5⟩ | .i k n=>some ⟨.i k n,none,none,5⟩ | .s y=>some ⟨.s y,none,none,5⟩
 | .nl τ=>match τ.deep with | true=>none | false=>some ⟨.l τ [],none,none,5⟩
 | .sw r=>match m.r r with
  | some row=>match row.τ.deep with
   | true=>none
   | false=>match ownK row.ow with
    | true=>some ⟨.l row.τ row.xs,some r,none,5⟩
    | false=>some ⟨.l row.τ row.xs,none,none,lvK row.ow⟩
  | none=>none
 | x=>match (m.vw x).ct,x.row with
  | some (.l τ y),some r=>match τ.deep,m.r r with
   | false,some row=>match x.inner with
    | true=>match row.ow with
     | 5=>some ⟨.l τ y,none,some (r,4),4⟩
     | 4=>some ⟨.l τ y,none,none,4⟩
     | 3=>some ⟨.l τ y,none,none,4⟩
     | _=>some ⟨.l τ y,none,none,2⟩
    | false=>match ownK row.ow with
     | true=>match leK 4 row.ow with
      | true=>some ⟨.l τ y,none,some (r,3),4⟩
      | false=>none
     | false=>some ⟨.l τ y,none,none,lvK row.ow⟩
   | _,_=>none
  | _,_=>none
structure Abs where
 cts:List Ct
 mv:List (Nat×(Nat×Nat))
 sh:List (Nat×Nat)
 lv:Nat
def Lk.absorbs (m:Lk) (e:Nat):Nat->List Cv->Option Abs
 | _,[]=>some ⟨[],[],[],5⟩
 | c,x::l=>match m.absorb x,m.absorbs e (c+1) l with
  | some a,some b=>some ⟨a.ct::b.cts,(match a.mv with | some r=>(r,(e,c))::b.mv | none=>b.mv),(match a.sh with | some p=>p::b.sh | none=>b.sh),min a.lv b.lv⟩
  | _,_=>none
def nodupN:List Nat->Bool
 | []=>true
 | x::l=>match hasN x l with | true=>false | false=>nodupN l
def disjN:List Nat->List Nat->Bool
 | [],_=>true
 | x::l,m=>match hasN x m with | true=>false | false=>disjN l m
def keys {α:Type}:List (Nat×α)->List Nat
 | []=>[]
 | (k,_)::l=>k::keys l
def Lk.share (m:Lk):List (Nat×Nat)->List (Nat×Option Row)
 | []=>[]
 | (r,w)::l=>match m.r r with
  | some row=>(r,some { row with ow:=w })::m.share l
  | none=>m.share l
def gone:List (Nat×(Nat×Nat))->List (Nat×Option Row)
 | []=>[]
 | (r,_)::l=>(r,none)::gone l
inductive Out | no | r0 (v:AV) | r (p:Bool) (v:AV) | w0 (v:AV) (δ:Dl) | w (p:Bool) (v:AV) (δ:Dl)
def mkA (ag:Bool) (l:List Cv):AV:=match ag with
 | true=> .a l
 | false=>match l with | [x]=> .c x | _=> .c .un
def AV.cells:AV->Option (List Cv)
 | .c .un=>none
 | .c x=>some [x]
 | .a l=>some l
 | _=>none
def u8:AV:= .t []
def cmpI (op:BinOp) (a b:Int):Option Bool:=match op with
 | .eql=>some (a==b) | .neq=>some (!(a==b)) | .lss=>some (decide (a<b)) | .leq=>some (decide (a<=b)) | .gtr=>some (decide (b<a)) | .geq=>some (decide (b<=a))
 | _=>none
def sLt (a b:ByteArray):Bool:=Op.bytesLess a.toList b.toList
def cmpS (op:BinOp) (a b:ByteArray):Option Bool:=match op with
 | .eql=>some (a==b) | .neq=>some (!(a==b)) | .lss=>some (sLt a b) | .gtr=>some (sLt b a) | .leq=>some (!(sLt b a)) | .geq=>some (!(sLt a b))
 | _=>none
def cvEq:Cv->Cv->Option Bool
 | .b x,.b y=>some (x==y)
 | .i _ x,.i _ y=>some (x==y)
 | .s x,.s y=>some (x==y)
 | _,_=>none
def cvsEq:List Cv->List Cv->Option Bool
 | [],[]=>some true
 | x::l,y::m=>match cvEq x y,cvsEq l m with
  | some a,some b=>some (match l with | []=>a | _=>a&&b)
  | _,_=>none
 | _,_=>none
def tEq:Ty->Ty->Bool
 | .int,.int | .bool,.bool | .byte,.byte | .str,.str | .slot,.slot | .inode,.inode | .block,.block | .dep,.dep | .node,.node | .event,.event=>true
 | _,_=>false
def binO (op:BinOp) (x y:AV):Out:=match x,y with
 | .c (.i k a),.c (.i k' b)=>match op with
  | .shl=> .r (decide (0<=b)) (.c (.i k (k.wrap (a*2 ^ (min b.toNat k.bits)))))
  | .shr=> .r (decide (0<=b)) (.c (.i k (a.fdiv (2 ^ (min b.toNat k.bits)))))
  | op=>match kEq k k' with
   | false=> .no
   | true=>match op with
    | .add=> .r0 (.c (.i k (k.wrap (a+b)))) | .sub=> .r0 (.c (.i k (k.wrap (a-b)))) | .mul=> .r0 (.c (.i k (k.wrap (a*b))))
    | .quo=> .r (!(b==0)) (.c (.i k (k.wrap (a.tdiv b))))
    | .rem=> .r (!(b==0)) (.c (.i k (a.tmod b)))
    | .and=> .r0 (.c (.i k (k.wrap ((BitVec.ofInt k.bits a &&& BitVec.ofInt k.bits b).toNat))))
    | .or=> .r0 (.c (.i k (k.wrap ((BitVec.ofInt k.bits a ||| BitVec.ofInt k.bits b).toNat))))
    | .xor=> .r0 (.c (.i k (k.wrap ((BitVec.ofInt k.bits a ^^^ BitVec.ofInt k.bits b).toNat))))
    | op=>match cmpI op a b with | some c=> .r0 (.c (.b c)) | none=> .no
 | .c (.s a),.c (.s b)=>match op with
  | .add=> .r (decide (a.size+b.size<=4611686018427387904)) (.c (.s (a++b)))
  | op=>match cmpS op a b with | some c=> .r0 (.c (.b c)) | none=> .no
 | .c (.b a),.c (.b b)=>match op with
  | .eql=> .r0 (.c (.b (a==b))) | .neq=> .r0 (.c (.b (!(a==b)))) | _=> .no
 | .a l,.a m=>match op,cvsEq l m with
  | .eql,some c=> .r0 (.c (.b c)) | .neq,some c=> .r0 (.c (.b (!c))) | _,_=> .no
 | _,_=> .no
def pickA (x:Bool) (u v:AV):AV:=match u,v with
 | .c (.b p),.c (.b q)=> .c (.b (bif x then p else q))
 | _,_=> .c .un
def bt (s:ByteArray) (i:Nat):Nat:=(s.data.getD i 0).toNat
def inR (i:Int) (n:Nat):Bool:=decide (0<=i)&&decide (i<(n:Int))
def Lk.indexA (m:Lk) (x:Cv) (i:Int) (z:Nat):Out:=match x with
 | .sw r=>match m.vw x with | .w τ xs=>(match Nat.beq (sz τ) z with | true=> .r (inR i xs.length) (.c (.pe r i.toNat 0)) | false=> .no) | _=> .no
 | .sl r off len=>match m.vw x with | .p τ _ _ _=>(match Nat.beq (sz τ) z with | true=> .r (inR i len) (.c (.pe r (off+i.toNat) 0)) | false=> .no) | _=> .no
 | .nw r e c=>match m.vw x with | .w τ xs=>(match Nat.beq (sz τ) z with | true=> .r (inR i xs.length) (.c (.pn r e c i.toNat 0)) | false=> .no) | _=> .no
 | .ns r e c off len=>match m.vw x with | .p τ _ _ _=>(match Nat.beq (sz τ) z with | true=> .r (inR i len) (.c (.pn r e c (off+i.toNat) 0)) | false=> .no) | _=> .no
 | .nl _=> .r false (.c .un)
 | _=> .no
def addO (x:Cv) (n:Nat):Cv:=match x with
 | .pv v c=> .pv v (c+n) | .pe r e c=> .pe r e (c+n) | .pn r e c k d=> .pn r e c k (d+n) | _=> .un
def repl {α:Type} (l:List α) (c:Nat) (m:List α):List α:=l.take c++m++l.drop (c+m.length)
def allFlat:List Cv->Bool
 | []=>true
 | .b _::l | .i .. ::l | .s _::l=>allFlat l
 | _=>false
def pvs (r:Nat):List (Nat×(Nat×Nat))->List (Nat×(Nat×Nat×Nat))
 | []=>[]
 | (k,(e,c))::l=>(k,(r,e,c))::pvs r l
def Lk.store (m:Lk) (x:Cv) (vl:List Cv):Out:=match x with
 | .pv v c=>match m.v v with
  | some cs=>match Nat.ble (c+vl.length) cs.length with
   | true=> .w0 u8 { Dl.z with vs:=[(v,repl cs c vl)] }
   | false=> .no
  | none=> .no
 | .pe r e c=>match m.r r with
  | some row=>match ownK row.ow,m.absorbs e c vl with
   | true,some a=>match Nat.ble (c+vl.length) (sz row.τ),mkEl row.τ (repl (row.cs e) c a.cts) with
    | true,some y=>match allFlat vl with
     | true=> .w (okEl row.τ a.cts) u8 { Dl.z with rs:=[(r,some { row with xs:=row.xs.set e y })] }
     | false=>match nodupN (r::(keys a.mv++keys a.sh)) with
      | true=> .w (okEl row.τ a.cts) u8 { Dl.z with mv:=pvs r a.mv,kn:=[r],rs:=gone a.mv++(m.share a.sh++[(r,some { row with xs:=row.xs.set e y,ow:=min row.ow a.lv })]) }
      | false=> .no
    | _,_=> .no
   | _,_=> .no
  | none=> .no
 | .pn r e c k d=>match m.r r with
  | some row=>match Nat.beq row.ow 5,allFlat vl,m.cts vl with
   | true,true,some cts=>match nth (row.cs e) c with
    | some (.l τ ys)=>match Nat.ble (d+vl.length) (sz τ),mkEl τ (repl (cells τ (ys.getD k (dflt τ))) d cts) with
     | true,some y=>match mkEl row.τ (repl (row.cs e) c [.l τ (ys.set k y)]) with
      | some z=> .w (okEl τ cts) u8 { Dl.z with rs:=[(r,some { row with xs:=row.xs.set e z })] }
      | none=> .no
     | _,_=> .no
    | _=> .no
   | _,_,_=> .no
  | none=> .no
 | _=> .no
structure Els (τ:Ty) where
 ys:List (El τ)
 mv:List (Nat×(Nat×Nat))
 sh:List (Nat×Nat)
 lv:Nat
 ok:Bool
def Lk.newEls (m:Lk) (τ:Ty):Nat->List (List Cv)->Option (Els τ)
 | _,[]=>some ⟨[],[],[],5,true⟩
 | e,x::l=>match m.absorbs e 0 x,m.newEls τ (e+1) l with
  | some a,some b=>match mkEl τ a.cts with
   | some y=>some ⟨y::b.ys,a.mv++b.mv,a.sh++b.sh,min a.lv b.lv,okEl τ a.cts&&b.ok⟩
   | none=>none
  | _,_=>none
def BIG:Nat:=1099511627776
def appT:(τ τ':Ty)->List (El τ')->List (El τ)->Option (List (El τ'))
 | .int,.int,xs,ys=>some (xs++ys) | .bool,.bool,xs,ys=>some (xs++ys) | .byte,.byte,xs,ys=>some (xs++ys) | .str,.str,xs,ys=>some (xs++ys)
 | .slot,.slot,xs,ys=>some (xs++ys) | .inode,.inode,xs,ys=>some (xs++ys) | .block,.block,xs,ys=>some (xs++ys) | .dep,.dep,xs,ys=>some (xs++ys)
 | .node,.node,xs,ys=>some (xs++ys) | .event,.event,xs,ys=>some (xs++ys) | _,_,_,_=>none
def neN (a:Option Nat) (b:Nat):Bool:=match a with | some a=>(match Nat.beq a b with | true=>false | false=>true) | none=>true
structure Ap where
 gone:List Nat
 rs:List (Nat×Option Row)
 lv:Nat
def Lk.apOf (m:Lk) (τ:Ty) (y:Cv):Ap:=match τ.deep,y.row with
 | true,some r=>match m.r r with
  | some row=>match row.ow with
   | 5=>(match y with
    | .sw _=>⟨[r],[(r,none)],5⟩
    | _=>⟨[],[(r,some { row with ow:=4 })],4⟩)
   | 4=>⟨[],[],4⟩
   | 3=>⟨[],[],4⟩
   | _=>⟨[],[],2⟩
  | none=>⟨[],[],2⟩
 | _,_=>⟨[],[],5⟩
def notIo (r:Nat):Bool:=match Nat.ble 200000 r,Nat.ble r 299999 with | true,true=>false | _,_=>true
def Lk.append (m:Lk) (τ0:Ty) (d:Nat) (x y:Cv):Out :=
 match (m.vw y).ct with
 | some (.l τ ys)=>match tEq τ τ0,m.apOf τ y with
  | true,⟨g,sy,lv⟩=>match x with
   | .nl _=>match neN y.row (d*64) with
    | true=> .w (Nat.ble ys.length BIG) (.c (.sw (d*64))) { Dl.z with kr:=d*64::g,rs:=sy++[(d*64,some ⟨τ,ys,lv⟩)] }
    | false=> .no
   | .sw r=>match neN y.row r&&notIo r,m.r r with
    | true,some ⟨τ',xs,ow⟩=>match ownK ow,appT τ τ' xs ys with
     | true,some zs=> .w (Nat.ble zs.length BIG) (.c (.sw r)) { Dl.z with kr:=r::g,rs:=sy++[(r,some ⟨τ',zs,min ow lv⟩)] }
     | _,_=> .no
    | _,_=> .no
   | _=> .no
  | _,_=> .no
 | _=> .no
def Lk.sliceA (m:Lk) (x:AV) (lo hi:Option Int):Out:=match x with
 | .c (.s a)=>match lo,hi with
  | none,none=> .r0 (.c (.s (a.extract 0 a.size)))
  | some l,none=> .r (decide (0<=l)&&decide (l<=(a.size:Int))) (.c (.s (a.extract l.toNat a.size)))
  | none,some h=> .r (decide (0<=h)&&decide (h<=(a.size:Int))) (.c (.s (a.extract 0 h.toNat)))
  | some l,some h=> .r (decide (0<=l)&&(decide (l<=h)&&decide (h<=(a.size:Int)))) (.c (.s (a.extract l.toNat h.toNat)))
 | .c x=>match (m.vw x).len with
  | none=> .no
  | some n =>
   let mk (l:Nat) (k:Nat):AV:=match x with
    | .sw r=> .c (.sl r l k) | .sl r off _=> .c (.sl r (off+l) k) | .nw r e c=> .c (.ns r e c l k) | .ns r e c off _=> .c (.ns r e c (off+l) k) | .nl τ=> .c (.nl τ) | _=> .c .un
   match lo,hi with
   | none,none=> .r0 (.c x)
   | some l,none=> .r (decide (0<=l)&&decide (l<=(n:Int))) (mk l.toNat (n-l.toNat))
   | none,some h=> .r (decide (0<=h)&&decide (h<=(n:Int))) (mk 0 h.toNat)
   | some l,some h=> .r (decide (0<=l)&&(decide (l<=h)&&decide (h<=(n:Int)))) (mk l.toNat (h.toNat-l.toNat))
 | _=> .no
def AV.int:AV->Option Int
 | .c (.i _ n)=>some n
 | _=>none
def optI (f:Operand->AV):Option Operand->Option (Option Int)
 | none=>some none
 | some o=>match (f o).int with | some n=>some (some n) | none=>none
def fillP (X:Ctx) (t:TypeId) (f:Operand->AV):List (Nat×Operand)->List Cv->Option (List Cv)
 | [],acc=>some acc
 | (i,o)::l,acc=>match fOff X.P t i,(f o).cells with
  | some off,some cs=>match Nat.ble (off+cs.length) acc.length,Nat.beq cs.length (szOf X.P (fTy X.P t i)) with
   | true,true=>fillP X t f l (repl acc off cs)
   | _,_=>none
  | _,_=>none
def partsOf (f:Operand->AV) (z:Nat):Nat->List (Nat×Operand)->Option (List (List Cv))
 | _,[]=>some []
 | n,(i,o)::l=>match Nat.beq i n,(f o).cells,partsOf f z (n+1) l with
  | true,some cs,some r=>match Nat.beq cs.length z with | true=>some (cs::r) | false=>none
  | _,_,_=>none
def capsOf (f:Operand->AV):List Operand->Option (List Nat)
 | []=>some []
 | o::l=>match f o,capsOf f l with
  | .c (.pv v 0),some r=>some (v::r)
  | _,_=>none
def bytesOf:Vw->Option (List UInt8)
 | .w .byte xs=>some xs
 | .p .byte xs off len=>some (sub xs off len)
 | _=>none
def elSz (P:Program) (t:TypeId):Nat:=match elId P t with | some e=>szOf P e | none=>0
def isStr (P:Program) (t:TypeId):Bool:=match P.underlying t with | some .string=>true | _=>false
def isSlc (P:Program) (t:TypeId):Bool:=match P.underlying t with | some (.slice _)=>true | _=>false
def Vw.ty:Vw->Option Ty
 | .no=>none | .w τ _=>some τ | .p τ _ _ _=>some τ
def Lk.cutOk (m:Lk) (P:Program) (t:TypeId):AV->Bool
 | .c (.s _)=>isStr P t
 | .c x=>match (m.vw x).ty with | some τ=>Nat.beq (sz τ) (elSz P t) | none=>false
 | _=>false
def sameK:Ct->Cv->Bool
 | .b _,.b _=>true
 | .i k _,.i k' _=>kEq k k'
 | .s _,.s _=>true
 | _,_=>false
def sameKs:List Ct->List Cv->Bool
 | [],[]=>true
 | c::l,x::m=>sameK c x&&sameKs l m
 | _,_=>false
def Ctx.binT (X:Ctx) (op:BinOp) (t:TypeId) (x y:AV):Out:=match x,y with
 | .c (.b a),y'=>match X.P.underlying t with | some .bool=>binO op (.c (.b a)) y' | _=> .no
 | .a l,y'=>match lk X.eqs t,y' with
  | some ks,.a m=>match sameKs ks l&&sameKs ks m with | true=>binO op (.a l) (.a m) | false=> .no
  | _,_=> .no
 | x',y'=>binO op x' y'
def unO (op:UnOp) (x:AV):Out:=match op,x with
 | .not,.c (.b b)=> .r0 (.c (.b (!b)))
 | .neg,.c (.i k n)=> .r0 (.c (.i k (k.wrap (0-n))))
 | _,_=> .no
def Ctx.convO (X:Ctx) (m:Lk) (t u:TypeId) (x:AV):Out:=match X.P.underlying t,X.P.underlying u,x with
 | some _,some (.int k),.c (.i _ n)=> .r0 (.c (.i k (k.wrap n)))
 | some (.slice e),some .string,.c a=>match bytesOf (m.vw a),X.P.underlying e with
  | some xs,some (.int .u8)=> .r0 (.c (.s ⟨xs.toArray⟩))
  | _,_=> .no
 | _,_,_=> .no
def lenN (b:Bool):Option Nat->Out
 | some n=>match b with | true=> .r0 (.c (.i .i64 n)) | false=> .no
 | none=> .no
def Ctx.lenO (X:Ctx) (m:Lk) (t:TypeId):AV->Out
 | .c (.s a)=>match isStr X.P t with | true=> .r0 (.c (.i .i64 a.size)) | false=> .no
 | .c a=>lenN (isSlc X.P t) (m.vw a).len
 | _=> .no
def mmO (f:Int->Int->Int) (x y:AV):Out:=match x,y with
 | .c (.i k a),.c (.i k' b)=>(match kEq k k' with | true=> .r0 (.c (.i k (f a b))) | false=> .no)
 | _,_=> .no
def Ctx.appO (X:Ctx) (m:Lk) (d:Nat) (t u:TypeId) (x y:AV):Out:=match X.elOwn t,Nat.beq t u,x,y with
 | some τ,true,.c a,.c b=>m.append τ d a b
 | _,_,_,_=> .no
def Ctx.clearO (X:Ctx) (m:Lk) (t:TypeId) (x:AV):Out:=match x,X.elOwn t with
 | .c (.sl r off len),some τ=>match m.r r with
  | some row=>match ownK row.ow&&tEq row.τ τ,row.τ.deep&&Nat.beq row.ow 5 with
   | true,false=> .w0 u8 { Dl.z with kn:=[r],rs:=[(r,some { row with xs:=row.xs.take off++(List.replicate len (dflt row.τ)++row.xs.drop (off+len)) })] }
   | _,_=> .no
  | none=> .no
 | _,_=> .no
def Lk.dst (m:Lk):Cv->Option (Nat×Row×Nat×Nat)
 | .sw r=>match m.r r with | some row=>some (r,row,0,row.xs.length) | none=>none
 | .sl r off len=>match m.r r with | some row=>some (r,row,off,len) | none=>none
 | _=>none
def one1:Ty->Bool
 | .int | .bool | .byte | .str=>true
 | _=>false
def Ctx.copyO (X:Ctx) (m:Lk) (t:TypeId) (x y:AV):Out:=match x,y,X.elOwn t with
 | .c a,.c b,some τ=>match m.dst a,(m.vw b).ct with
  | some (r,row,off,len),some (.l σ ys)=>match ownK row.ow&&(tEq row.τ τ&&one1 τ),appT σ row.τ (row.xs.take off) (ys.take (min ys.length len)) with
   | true,some zs=> .w0 (.c (.i .i64 (min ys.length len:Nat))) { Dl.z with kn:=[r],rs:=[(r,some { row with xs:=zs++row.xs.drop (off+min ys.length len) })] }
   | _,_=> .no
  | _,_=> .no
 | _,_,_=> .no
def stepO (X:Ctx) (evp:List (Nat×Bool)->TypeId->Operand->AV) (m:Lk) (d:Nat) (ty:TypeId) (op:Op):Out :=
 let ev:=evp []
 match op with
 | .move x | .assign x=> .r0 (ev ty x)
 | .pick c a b=>match c with
  | .tmp t=>match ev ty c with
   | .c (.b x)=> .r0 (pickA x (evp [(t,true)] ty a) (evp [(t,false)] ty b))
   | _=> .no
  | _=> .no
 | .alloc t=>match X.zero t with
  | some cs=> .w0 (.c (.pv (1000+d) 0)) { Dl.z with kv:=[1000+d],vs:=[(1000+d,cs)] }
  | none=> .no
 | .box t x=>match (ev t x).cells with
  | some cs=>match Nat.beq cs.length (szOf X.P t) with
   | true=> .w0 (.c (.pv (1000+d) 0)) { Dl.z with kv:=[1000+d],vs:=[(1000+d,fmap (Dl.map { Dl.z with kv:=[1000+d] }) cs)] }
   | false=> .no
  | none=> .no
 | .build t parts=>match X.zero t,plOk X.P t with
  | some zs,true=>match fillP X t (ev ty) parts.toList zs with
   | some cs=> .r0 (.a cs)
   | none=> .no
  | _,_=> .no
 | .buildSlice t n parts=>match X.elOwn t with
  | none=> .no
  | some τ=>match Nat.beq parts.size n&&Nat.ble (n*sz τ) 16777216,partsOf (ev ty) (sz τ) 0 parts.toList with
   | true,some pss=>match m.newEls τ 0 pss with
    | some b=>match nodupN (d*64::(keys b.mv++keys b.sh)) with
     | true =>
      let δ:Dl:={ Dl.z with kr:=d*64::keys b.mv,rs:=gone b.mv++(m.share b.sh++[(d*64,some ⟨τ,b.ys,b.lv⟩)]) }
      match τ.isByte with
      | true=> .w b.ok (.c (.sw (d*64))) δ
      | false=> .w0 (.c (.sw (d*64))) δ
     | false=> .no
    | none=> .no
   | _,_=> .no
 | .load t x=>match ev ty x with
  | .c a=>match m.from a with
   | some cs=>match Nat.ble (szOf X.P t) cs.length&&ldOk X.P t with
    | true=> .r0 (mkA (isAg X.P t) (cs.take (szOf X.P t)))
    | false=> .no
   | none=> .no
  | _=> .no
 | .store t x v=>match ev ty x,(ev t v).cells with
  | .c a,some cs=>match Nat.beq cs.length (szOf X.P t)&&Nat.ble 1 cs.length with
   | true=>m.store a cs
   | false=> .no
  | _,_=> .no
 | .nilCheck x=>match ev ty x with
  | .c (.pv v c)=> .r0 (.c (.pv v c)) | .c (.pe r e c)=> .r0 (.c (.pe r e c)) | .c (.pn r e c k d)=> .r0 (.c (.pn r e c k d))
  | _=> .no
 | .binOp op t x y _=>X.binT op t (ev t x) (ev t y)
 | .unOp op t x=>unO op (ev t x)
 | .convert t u x=>X.convO m t u (ev t x)
 | .makeFunc (.func f) first caps=>match first.size,capsOf (ev ty) caps.toList with
  | 0,some vs=> .r0 (.c (.fn f vs))
  | _,_=> .no
 | .makeSlice t n c=>match X.elOwn t,(ev ty n).int,(ev ty c).int with
  | some τ,some a,some b=> .w ((a==b)&&(decide (0<=a)&&Nat.ble a.toNat BIG)) (.c (.sw (d*64)))
    { Dl.z with kr:=[d*64],rs:=[(d*64,some ⟨τ,List.replicate a.toNat (dflt τ),5⟩)] }
  | _,_,_=> .no
 | .slice t x lo hi mx=>match mx,optI (ev ty) lo,optI (ev ty) hi with
  | none,some l,some h=>match m.cutOk X.P t (ev t x) with
   | true=>m.sliceA (ev t x) l h
   | false=> .no
  | _,_,_=> .no
 | .fieldAddr t x f=>match ev ty x,fOff X.P t f,Nat.beq (szOf X.P (fTy X.P t f)) 0 with
  | .c a,some n,false=>match addO a n with | .un=> .no | a=> .r0 (.c a)
  | _,_,_=> .no
 | .field t x f=>match ev t x,fOff X.P t f with
  | .a l,some n=>match Nat.ble (n+szOf X.P (fTy X.P t f)) l.length&&ldOk X.P (fTy X.P t f) with
   | true=> .r0 (mkA (isAg X.P (fTy X.P t f)) ((l.drop n).take (szOf X.P (fTy X.P t f))))
   | false=> .no
  | _,_=> .no
 | .indexAddr t x i=>match ev t x,(ev ty i).int with
  | .c a,some n=>m.indexA a n (elSz X.P t)
  | _,_=> .no
 | .index t x i=>match ev t x,(ev ty i).int with
  | .c (.s a),some n=>match isStr X.P t with
   | true=> .r (inR n a.size) (.c (.i .u8 (bt a n.toNat)))
   | false=> .no
  | _,_=> .no
 | .extract x i=>match ev ty x with
  | .t l=>match nth l i with | some (b,cs)=> .r0 (mkA b cs) | none=> .no
  | _=> .no
 | .call { callee:= .builtin b,args,argTypes }=>match b,args.toList,argTypes.toList with
  | .len,[x],[t]=>X.lenO m t (ev t x)
  | .append,[x,y],[t,u]=>X.appO m d t u (ev t x) (ev t y)
  | .clear,[x],[t]=>X.clearO m t (ev t x)
  | .copy,[x,y],[t,u]=>X.copyO m t (ev t x) (ev u y)
  | .max,[x,y],_=>mmO max (ev ty x) (ev ty y)
  | .min,[x,y],_=>mmO min (ev ty x) (ev ty y)
  | _,_,_=> .no
 | _=> .no
inductive AC
 | c (x:Ct) | a (l:List Ct) | p (k:Nat) | f (g:Nat) (ks:List Nat) | al (k c:Nat) | io (τ:Ty) (xs:List (El τ))
inductive Rc
 | c (x:Ct) | m (x:Ct) | al (p j e c:Nat) | aw (p j:Nat) | un
inductive RC
 | c (x:Rc) | a (l:List Rc) | t (l:List (Bool×List Rc)) | np (l:List Rc) | u
structure CR where
 res:RC
 vo:List (List Ct)
 io:List Ct
structure Sig where
 am:List Nat
 vl:List (List Nat)
 rl:List (List Nat)
 dr:RC
def hd (l:List Nat):Nat:=match l with | []=>0 | x::_=>x
def hdL {α:Type} (l:List (List α)):List α:=match l with | []=>[] | x::_=>x
def tl {α:Type} (l:List α):List α:=match l with | []=>[] | _::l=>l
def idxO (v:Nat):Nat->List Nat->Option Nat
 | _,[]=>none
 | n,w::l=>match Nat.beq w v with | true=>some n | false=>idxO v (n+1) l
def addV (κ:List Nat) (v:Nat):Nat×List Nat:=match idxO v 0 κ with
 | some k=>(k,κ)
 | none=>(κ.length,κ++[v])
def addVs (κ:List Nat):List Nat->List Nat×List Nat
 | []=>([],κ)
 | v::l=>match addV κ v with
  | (k,κ1)=>match addVs κ1 l with
   | (ks,κ2)=>(k::ks,κ2)
def findC (r:Nat):Nat->List Cv->Option Nat
 | _,[]=>none
 | n,.sw r'::l=>match Nat.beq r' r with | true=>some n | false=>findC r (n+1) l
 | n,_::l=>findC r (n+1) l
structure AR where
 acs:List AC
 κ:List Nat
 gone:List Nat
 io:List Nat
 fz:List Nat
 bor:List Nat
 imm:Bool
def Lk.immC (m:Lk) (x:Cv):Bool:=match x.row with
 | some r=>match m.r r with
  | some row=>(match row.ow with | 1=>true | 3=>true | _=>false)
  | none=>false
 | none=>true
def Lk.immL (m:Lk):List Cv->Bool
 | []=>true
 | x::l=>match m.immC x with | true=>m.immL l | false=>false
def borL:List Cv->List Nat
 | []=>[]
 | x::l=>match x.row with | some r=>r::borL l | none=>borL l
def Lk.owned (m:Lk) (w:Nat):List Cv->Option (List Nat)
 | []=>some []
 | .sw r::l=>match m.r r,m.owned w l with
  | some row,some k=>match leK w row.ow with | true=>some (r::k) | false=>none
  | _,_=>none
 | .nl _::l | .b _::l | .i .. ::l | .s _::l=>m.owned w l
 | _=>none
def consA (x:AC) (g:List Nat) (io fz bor:List Nat) (b:Bool) (q:Option AR):Option AR:=match q with
 | some q=>some ⟨x::q.acs,q.κ,g++q.gone,io++q.io,fz++q.fz,bor++q.bor,match b with | true=>q.imm | false=>false⟩
 | none=>none
def hideC:Ct->Ct
 | .l .. => .u
 | x=>x
def hideA:AC->AC
 | .a l=> .a (fmap hideC l)
 | .c x=> .c (hideC x)
 | x=>x
def Lk.argL (m:Lk) (w:Nat) (cs:List Cv) (x:AC) (q:Option AR):Option AR:=match w with
 | 0=>consA x [] [] [] (borL cs) (m.immL cs) q
 | 7=>consA (hideA x) [] [] [] [] true q
 | w=>match hdK w,m.owned w cs with
  | true,some g=>match w with
   | 3=>consA x [] [] g [] true q
   | _=>consA x g [] [] [] false q
  | _,_=>none
def Lk.arg9 (m:Lk) (x:Cv) (q:Option AR):Option AR:=match x with
 | .sw r=>match m.r r with
  | some row=>match Nat.beq row.ow 5 with
   | true=>consA (.io row.τ row.xs) [] [r] [] [] false q
   | false=>none
  | none=>none
 | _=>none
def Lk.arg8 (m:Lk) (x:Cv) (κ:List Nat) (q:Option AR):Option AR:=match x,κ with
 | .sw r,v::_=>match m.v v with
  | some cs=>match findC r 0 cs with
   | some c=>consA (.al 0 c) [] [] [] [] false q
   | none=>none
  | none=>none
 | _,_=>none
def Lk.arg1 (m:Lk) (w:Nat) (x:Cv) (κ:List Nat) (q:Option AR):Option AR:=match w with
 | 9=>m.arg9 x q
 | 8=>m.arg8 x κ q
 | w=>match m.ct x with
  | some y=>m.argL w [x] (.c y) q
  | none=>none
def Lk.args (m:Lk):List Nat->List AV->List Nat->Option AR
 | _,[],κ=>some ⟨[],κ,[],[],[],[],true⟩
 | am,v::l,κ=>match v with
  | .c (.pv v 0)=>match addV κ v with
   | (k,κ1)=>consA (.p k) [] [] [] [] false (m.args (tl am) l κ1)
  | .c (.fn f caps)=>match addVs κ caps with
   | (ks,κ1)=>consA (.f f ks) [] [] [] [] false (m.args (tl am) l κ1)
  | .a cs=>match Nat.ble cs.length 63,m.cts cs with
   | true,some ys=>m.argL (hd am) cs (.a ys) (m.args (tl am) l κ)
   | _,_=>none
  | .c x=>m.arg1 (hd am) x κ (m.args (tl am) l κ)
  | _=>none
def Lk.vins (m:Lk):List (List Nat)->List Nat->Option (List (List Ct))
 | _,[]=>some []
 | vl,v::l=>match m.v v with
  | some cs=>match Nat.ble cs.length 63,m.cts cs,m.vins (tl vl) l with
   | true,some a,some b=>some (a::b)
   | _,_,_=>none
  | none=>none
def flatC:Ct->Option Cv
 | .u=>some .un | .b x=>some (.b x) | .i k n=>some (.i k n) | .s x=>some (.s x) | .l .. =>none
def Lk.ownRows (m:Lk):List Nat->List Cv->Option (List Nat×List Nat)
 | _,[]=>some ([],[])
 | ms,x::l=>match m.ownRows (tl ms) l with
  | none=>none
  | some (k,b)=>match hd ms with
   | 0=>match x.row with | some r=>some (k,r::b) | none=>some (k,b)
   | 1=>match x.row with | some r=>some (k,r::b) | none=>some (k,b)
   | w=>match x with
    | .sw r=>match m.r r with
     | some row=>match hdK w&&notIo r,leK w row.ow with | true,true=>some (r::k,b) | _,_=>none
     | none=>none
    | .nl _=>match hdK w with | true=>some (k,b) | false=>none
    | _=>none
def Lk.ownRowsOf (m:Lk):List (List Nat)->List Nat->Option (List Nat×List Nat)
 | _,[]=>some ([],[])
 | vl,v::l=>match m.v v with
  | some cs=>match m.ownRows (hdL vl) cs,m.ownRowsOf (tl vl) l with
   | some (a,b),some (a',b')=>some (a++a',b++b')
   | _,_=>none
  | none=>none
def Lk.handed (m:Lk) (g:Sig) (ar:AR):Option (List Nat×List Nat):=match m.ownRowsOf g.vl ar.κ with
 | none=>none
 | some (ow,b) =>
  match nodupN (ar.gone++(ow++ar.io)),disjN ar.fz (ar.gone++(ow++ar.io)),disjN ar.bor (ar.gone++(ow++ar.io)),disjN b (ar.gone++(ow++ar.io)) with
  | true,true,true,true=>some (ow,b)
  | _,_,_,_=>none
def cellsNew (f:Cv->Cv) (v:Nat):Nat->List Nat->List Cv->List Ct->Option (List Cv×List (Nat×Row))
 | _,_,[],[]=>some ([],[])
 | j,ms,c::cs,y::ys=>match cellsNew f v (j+1) (tl ms) cs ys with
  | none=>none
  | some (cs',rs')=>match hd ms with
   | 0=>match flatC y with | some x=>some (x::cs',rs') | none=>none
   | 1=>some (f c::cs',rs')
   | w=>match y with
    | .l τ xs=>match c with
     | .sw r=>some (.sw r::cs',(r,⟨τ,xs,w⟩)::rs')
     | _=>some (.sw (1000000+v*64+j)::cs',(1000000+v*64+j,⟨τ,xs,w⟩)::rs')
    | _=>none
 | _,_,_,_=>none
def Lk.varsNew (m:Lk) (f:Cv->Cv):List (List Nat)->List Nat->List (List Ct)->Option (List (Nat×List Cv)×List (Nat×Row))
 | _,[],[]=>some ([],[])
 | vl,v::κ,l::vo=>match m.v v with
  | some cs=>match cellsNew f v 0 (hdL vl) cs l,m.varsNew f (tl vl) κ vo with
   | some (a,r),some (b,q)=>some ((v,a)::b,r++q)
   | _,_=>none
  | none=>none
 | _,_,_=>none
def Lk.ioNew (m:Lk):List Nat->List Ct->Option (List (Nat×Row))
 | [],[]=>some []
 | r::l,.l τ xs::y=>match m.r r,m.ioNew l y with
  | some row,some q=>match tEq row.τ τ with
   | true=>some ((r,⟨τ,xs,row.ow⟩)::q)
   | false=>none
  | _,_=>none
 | _,_=>none
def argC (as:List AV) (p j:Nat):Option Cv:=match nth as p with
 | some (.c x)=>match j with | 0=>some x | _=>none
 | some (.a l)=>nth l j
 | _=>none
def aliasC (as:List AV):Rc->Option Cv
 | .aw p j=>argC as p j
 | .al p j e c=>match argC as p j with
  | some (.sw r)=>some (.nw r e c)
  | some (.sl r off _)=>some (.nw r (off+e) c)
  | _=>some .un
 | .un=>some .un
 | .c _=>none
 | .m _=>none
def w5 (w:Nat):Nat:=match w with | 6=>5 | w=>w
def resCs (f:Cv->Cv) (as:List AV) (imm:Bool):Nat->List Nat->List Rc->Option (List Cv×List (Nat×Row))
 | _,_,[]=>some ([],[])
 | k,ms,y::ys=>match resCs f as imm (k+1) (tl ms) ys with
  | none=>none
  | some (cs,rs)=>match y with
   | .m (.l τ xs)=>(match imm with
    | true=>some (.sw k::cs,(k,⟨τ,xs,1⟩)::rs)
    | false=>some (.un::cs,rs))
   | .m y=>match flatC y with | some x=>some (x::cs,rs) | none=>none
   | .c (.l τ xs)=>some (.sw k::cs,(k,⟨τ,xs,w5 (hd ms)⟩)::rs)
   | .c y=>match flatC y with | some x=>some (x::cs,rs) | none=>none
   | y=>match aliasC as y with | some x=>some (f x::cs,rs) | none=>none
def resTs (f:Cv->Cv) (as:List AV) (imm:Bool):Nat->List (List Nat)->List (Bool×List Rc)->Option (List (Bool×List Cv)×List (Nat×Row))
 | _,_,[]=>some ([],[])
 | k,ms,(b,l)::ys=>match resCs f as imm k (hdL ms) l,resTs f as imm (k+l.length) (tl ms) ys with
  | some (cs,rs),some (ts,rs')=>some ((b,cs)::ts,rs++rs')
  | _,_=>none
def resA (f:Cv->Cv) (as:List AV) (imm:Bool) (rl:List (List Nat)) (d:Nat):RC->Option (AV×List (Nat×Row)×List (Nat×List Cv))
 | .u=>some (.t [],[],[])
 | .c x=>match resCs f as imm (d*64) (hdL rl) [x] with
  | some ([c],rs)=>some (.c c,rs,[])
  | _=>none
 | .a l=>match resCs f as imm (d*64) (hdL rl) l with
  | some (cs,rs)=>some (.a cs,rs,[])
  | none=>none
 | .t l=>match resTs f as imm (d*64) rl l with
  | some (ts,rs)=>some (.t ts,rs,[])
  | none=>none
 | .np l=>match resCs f as imm (d*64) (hdL rl) l with
  | some (cs,rs)=>some (.c (.pv (1000+d) 0),rs,[(1000+d,cs)])
  | none=>none
def rcsN:List Rc->Nat
 | []=>0
 | _::l=>rcsN l+1
def rtsN:List (Bool×List Rc)->Nat
 | []=>0
 | (_,l)::m=>rcsN l+rtsN m
def upK:Nat->Nat->List Nat
 | _,0=>[]
 | k,n+1=>k::upK (k+1) n
def RC.keys (d:Nat):RC->List Nat
 | .u=>[] | .c _=>[d*64] | .a l=>upK (d*64) (rcsN l) | .t l=>upK (d*64) (rtsN l) | .np l=>upK (d*64) (rcsN l)
def homes (v:Nat):Nat->List Cv->List Nat
 | _,[]=>[]
 | j,_::l=>(1000000+v*64+j)::homes v (j+1) l
def Lk.homesOf (m:Lk):List Nat->List Nat
 | []=>[]
 | v::l=>(match m.v v with | some cs=>homes v 0 cs | none=>[])++m.homesOf l
def somes:List (Nat×Row)->List (Nat×Option Row)
 | []=>[]
 | (k,r)::l=>(k,some r)::somes l
def nones:List Nat->List (Nat×Option Row)
 | []=>[]
 | k::l=>(k,none)::nones l
def Lk.frz (m:Lk):List Nat->List (Nat×Option Row)
 | []=>[]
 | r::l=>match m.r r with | some row=>(r,some { row with ow:=3 })::m.frz l | none=>m.frz l
def RC.kv (d:Nat):RC->List Nat
 | .np _=>[1000+d]
 | _=>[]
def Lk.dl0 (m:Lk) (ar:AR) (res:RC) (ow:List Nat) (d:Nat):Dl:=⟨[],ar.gone++(ow++(res.keys d++m.homesOf ar.κ)),ar.io,[],res.kv d,[],[]⟩
def allLt (n:Nat):List Nat->Bool
 | []=>true
 | x::l=>Nat.blt x n&&allLt n l
def Lk.after (m:Lk) (g:Sig) (as:List AV) (ar:AR) (cr:CR) (ow:List Nat) (d:Nat):Option (AV×Dl) :=
  match m.varsNew (m.dl0 ar cr.res ow d).map g.vl ar.κ cr.vo,m.ioNew ar.io cr.io,resA (m.dl0 ar cr.res ow d).map as ar.imm g.rl d cr.res with
   | some (vs,r1),some r2,some (v,r3,vn) =>
    match nodupN (ar.gone++(keys r1++(keys r2++keys r3)))&&allLt 100000 (cr.res.keys d),disjN ar.fz (keys r1++(keys r2++keys r3)) with
    | true,true=>some (v,{ m.dl0 ar cr.res ow d with vs:=vs++vn,rs:=nones ar.gone++(m.frz ar.fz++(somes r1++(somes r2++somes r3))) })
    | _,_=>none
   | _,_,_=>none
abbrev FunR (R:Type):=List AC->List (List Ct)->(CR->Option R)->Option R
structure Env (R:Type) where
 sg:Nat->Option Sig
 fn:Nat->FunR R
inductive Ex | normal | exit (id:Nat) | ret
def guardP (ops:Array Oper) (s:St):Option (Nat×Bool)->Option (List (Nat×Bool)×Bool)
 | none=>some ([],true)
 | some (j,w)=>match ops[j]? with
  | none=>none
  | some o=>match o.dst with
   | none=>none
   | some t=>match s.get t with
    | .c (.b x)=>some ([(t,w)],match w with | true=>x | false=> !x)
    | .g p q (.c (.b x))=>some (p++[(t,w)],q&&(match w with | true=>x | false=> !x))
    | _=>none
def dropG:AV->AV
 | .g .. => .c .un
 | v=>v
def gd (p:List (Nat×Bool)) (q:Bool) (v:AV):AV:=match p with | []=>dropG v | _=> .g p q v
def ck (p:List (Nat×Bool)) (q c:Bool):Bool:=match p with | []=>c | _=> !q||c
def chk {R:Type} (c:Bool) (k:Option R):Option R:=bif c then k else none
def selC (q:Bool):Ct->Ct->Option Ct
 | .u,.u=>some .u
 | .b x,.b y=>some (.b (bif q then x else y))
 | .i k x,.i k' y=>match kEq k k' with | true=>some (.i k (bif q then x else y)) | false=>none
 | .s x,.s y=>some (.s (bif q then x else y))
 | .l τ x,.l σ y=>match appT σ τ [] y with | some z=>some (.l τ (bif q then x else z)) | none=>none
 | _,_=>none
def selCs (q:Bool):List Ct->List Ct->Option (List Ct)
 | [],[]=>some []
 | x::l,y::m=>match selC q x y,selCs q l m with | some a,some b=>some (a::b) | _,_=>none
 | _,_=>none
def selVs (q:Bool):List (List Ct)->List (List Ct)->Option (List (List Ct))
 | [],[]=>some []
 | x::l,y::m=>match selCs q x y,selVs q l m with | some a,some b=>some (a::b) | _,_=>none
 | _,_=>none
def selRc (q:Bool):Rc->Rc->Option Rc
 | .c x,.c y=>match selC q x y with | some z=>some (.c z) | none=>none
 | .m x,.m y=>match selC q x y with | some z=>some (.m z) | none=>none
 | .un,.un=>some .un
 | _,_=>none
def selRcs (q:Bool):List Rc->List Rc->Option (List Rc)
 | [],[]=>some []
 | x::l,y::m=>match selRc q x y,selRcs q l m with | some a,some b=>some (a::b) | _,_=>none
 | _,_=>none
def selRts (q:Bool):List (Bool×List Rc)->List (Bool×List Rc)->Option (List (Bool×List Rc))
 | [],[]=>some []
 | (b,x)::l,(c,y)::m=>match (match b,c with | true,true | false,false=>true | _,_=>false),selRcs q x y,selRts q l m with | true,some u,some v=>some ((b,u)::v) | _,_,_=>none
 | _,_=>none
def selRC (q:Bool):RC->RC->Option RC
 | .u,.u=>some .u
 | .c x,.c y=>match selRc q x y with | some z=>some (.c z) | none=>none
 | .a x,.a y=>match selRcs q x y with | some z=>some (.a z) | none=>none
 | .t x,.t y=>match selRts q x y with | some z=>some (.t z) | none=>none
 | _,_=>none
def selR (q:Bool) (x y:CR):Option CR:=match selRC q x.res y.res,selVs q x.vo y.vo,selCs q x.io y.io with
 | some a,some b,some c=>some ⟨a,b,c⟩
 | _,_,_=>none
abbrev gcall {R:Type} (p:List (Nat×Bool)) (q:Bool) (f:(CR->Option R)->Option R) (d:CR) (k:CR->Option R):Option R:=match p with
 | []=>f k
 | _=>f fun cr=>match selR q cr d with | some c=>k c | none=>none
def Lk.ioCs (m:Lk):List Nat->List Ct
 | []=>[]
 | r::l=>match m.r r with | some row=> .l row.τ row.xs::m.ioCs l | none=>m.ioCs l
def Cv.rk (x:Cv):List Nat:=match x.row with | some r=>[r] | none=>[]
def Cv.vk:Cv->List Nat
 | .pv v _=>[v] | .fn _ l=>l | _=>[]
def rksL:List Cv->List Nat
 | []=>[]
 | x::l=>x.rk++rksL l
def vksL:List Cv->List Nat
 | []=>[]
 | x::l=>x.vk++vksL l
def cvsT:List (Bool×List Cv)->List Cv
 | []=>[]
 | (_,l)::m=>l++cvsT m
def AV.cvs:AV->List Cv
 | .c x=>[x] | .a l=>l | .t l=>cvsT l | .g _ _ v=>v.cvs
structure Fp where
 d:Option Nat
 rt:List Nat
 wt:List Nat
 rr:List Nat
 rv:List Nat
 wr:List Nat
 wv:List Nat
 pm:List Nat
 kw:List Nat
def opT:List Operand->List Nat
 | []=>[]
 | .tmp t::l=>t::opT l
 | _::l=>opT l
def rksA:List AV->List Nat
 | []=>[]
 | v::l=>rksL v.cvs++rksA l
def vksA:List AV->List Nat
 | []=>[]
 | v::l=>vksL v.cvs++vksA l
def Lk.rowsOf (m:Lk):List Nat->List Nat
 | []=>[]
 | v::l=>(match m.v v with | some cs=>rksL cs | none=>[])++m.rowsOf l
def vcs:List (Nat×List Cv)->List Cv
 | []=>[]
 | (_,l)::m=>l++vcs m
def guardT (ops:Array Oper):Option (Nat×Bool)->List Nat
 | none=>[]
 | some (j,_)=>match ops[j]? with | some o=>(match o.dst with | some t=>[t] | none=>[]) | none=>[]
def rdV (as:List AV):List Nat:=vksA as
def rdR (s:St) (as:List AV):List Nat:=rksA as++s.lk.rowsOf (vksA as)
def rdT (ops:Array Oper) (o:Oper):List Nat:=opT o.op.operands.toList++guardT ops o.guard
def cutL {α:Type} (ks:List Nat):List (Nat×α)->List (Nat×α)
 | []=>[]
 | (k,v)::l=>match hasN k ks with | true=>(k,v)::cutL ks l | false=>cutL ks l
def looks:Op->Bool
 | .move _=>false
 | .assign _=>false
 | _=>true
def opAll (ops:Array Oper) (s:St) (o:Oper):List AV:=fmap s.get (rdT ops o)
def opAs (ops:Array Oper) (s:St) (o:Oper):List AV:=match looks o.op with | true=>opAll ops s o | false=>[]
def St.cut (s:St) (ops:Array Oper) (o:Oper):St:=⟨cutL (rdT ops o) s.tm,cutL (rdV (opAs ops s o)) s.vs,cutL (rdR s (opAs ops s o)) s.rs⟩
def Lk.varsOf (m:Lk):List Nat->List Nat
 | []=>[]
 | v::l=>(match m.v v with | some cs=>vksL cs | none=>[])++m.varsOf l
def hitT (R V:List Nat):List (Nat×AV)->List Nat
 | []=>[]
 | (t,v)::l=>match anyN (rksL v.cvs) R,anyN (vksL v.cvs) V with | false,false=>hitT R V l | _,_=>t::hitT R V l
def hitV (R V:List Nat):List (Nat×List Cv)->List Nat
 | []=>[]
 | (k,cs)::l=>match anyN (rksL cs) R,anyN (vksL cs) V with | false,false=>hitV R V l | _,_=>k::hitV R V l
def Dl.kills (δ:Dl):List Nat:=keys δ.mv++(δ.kr++(δ.ke++δ.kn))
def mvT:List (Nat×(Nat×Nat×Nat))->List Nat
 | []=>[]
 | (_,(d,_))::l=>d::mvT l
def fpOf (ops:Array Oper) (s:St) (o:Oper) (v:AV) (δ:Dl):Fp :=
 ⟨o.dst,rdT ops o,(match δ.quiet with | true=>[] | false=>hitT δ.kills δ.kv s.tm),
  rksA (opAll ops s o)++(rdR s (opAs ops s o)++(rksL v.cvs++rksL (vcs δ.vs))),rdV (opAs ops s o),
  mvT δ.mv++(δ.kills++keys δ.rs),δ.kv++((match δ.quiet with | true=>[] | false=>hitV δ.kills δ.kv s.vs)++keys δ.vs),
  vksA (opAll ops s o)++(s.lk.varsOf (vksA (opAs ops s o))++(vksL v.cvs++vksL (vcs δ.vs))),δ.kv⟩
def disjO (a:Option Nat) (l:List Nat):Bool:=match a with | some t=>(match hasN t l with | true=>false | false=>true) | none=>true
def apart (a b:Fp):Bool :=
 disjN a.wt b.rt&&(disjO a.d b.rt&&(disjO b.d a.rt&&((match a.d,b.d with | some x,some y=>(match Nat.beq x y with | true=>false | false=>true) | _,_=>true) &&
 (disjN a.wr b.rr&&(disjN a.wr b.wr&&(disjN a.rr b.wr&&(disjN a.wv b.rv&&(disjN a.wv b.wv&&(disjN a.rv b.wv&&(disjN a.kw b.pm&&disjN a.pm b.kw))))))))))
def nilCt:Ct->Bool
 | .l _ []=>true | .l .. =>false | _=>true
def nilRcs:List Rc->Bool
 | []=>true
 | .c x::l | .m x::l=>nilCt x&&nilRcs l
 | _=>false
def nilRts:List (Bool×List Rc)->Bool
 | []=>true
 | (_,l)::m=>nilRcs l&&nilRts m
def drOk:RC->Bool
 | .u=>true | .c x=>nilRcs [x] | .a l=>nilRcs l | .t l=>nilRts l | .np _=>false
def le1s:List (List Nat)->Bool
 | []=>true
 | l::m=>le1 l&&le1s m
 where le1:List Nat->Bool
 | []=>true
 | x::l=>Nat.ble x 1&&le1 l
def grdOk (p:List (Nat×Bool)) (g:Sig) (ar:AR) (v:AV):Bool:=match p with
 | []=>true
 | _=>le1s g.vl&&(drOk g.dr&&(match ar.gone,ar.io,ar.fz,v with | [],[],[],.c (.pv ..)=>false | [],[],[],_=>true | _,_,_,_=>false))
def runOp {R:Type} (X:Ctx) (E:Env R) (ops:Array Oper) (s:St) (o:Oper) (K:List (Nat×Bool)->Bool->AV->Dl->Option R):Option R :=
 match guardP ops s o.guard with
 | none=>none
 | some (p,q) =>
  let evp:=fun (e:List (Nat×Bool))=>X.opnd s (p++e)
  match o.op with
  | .call { callee:= .value f,args,.. }=>match evp [] 0 f with
   | .c (.fn g caps)=>match E.sg g with
    | none=>none
    | some sig =>
     let avs:=fmap (evp [] 0) args.toList++fmap (fun v=>AV.c (.pv v 0)) caps
     match s.lk.args sig.am avs [] with
     | none=>none
     | some ar=>match s.lk.vins sig.vl ar.κ,s.lk.handed sig ar,Nat.ble avs.length 1000&&Nat.ble ar.κ.length 1000 with
      | some vin,some (ow,_),true=>gcall p q (E.fn g ar.acs vin) ⟨sig.dr,vin,s.lk.ioCs ar.io⟩ fun cr =>
       match s.lk.after sig avs ar cr ow (match o.dst with | some d=>d | none=>0) with
       | none=>none
       | some (v,δ)=>match grdOk p sig ar v with
        | true=>K p q v δ
        | false=>none
      | _,_,_=>none
   | _=>none
  | op=>match stepO X evp s.lk (match o.dst with | some d=>d | none=>0) o.type op with
   | .no=>none
   | .r0 v=>K p q v Dl.z
   | .r c v=>chk (ck p q c) (K p q v Dl.z)
   | .w0 v δ=>match p with
    | []=>K p q v δ
    | _=>none
   | .w c v δ=>match p with
    | []=>chk c (K p q v δ)
    | _=>none
def execOps {R:Type} (X:Ctx) (E:Env R) (ops:Array Oper) (draw:Bool):List Oper->St->List Fp->(St->List Fp->Option R)->Option R
 | [],s,fp,K=>K s fp
 | o::l,s,fp,K=>match draw with
  | false=>runOp X E ops s o fun p q v δ=>execOps X E ops draw l ((s.app δ).put o.dst (gd p q v)) fp K
  | true=>runOp X E ops (s.cut ops o) o fun p q v δ=>execOps X E ops draw l ((s.app δ).put o.dst (gd p q v)) (fp++[fpOf ops s o v δ]) K
def dsts:List Oper->List Nat
 | []=>[]
 | o::l=>match o.dst with | some d=>d::dsts l | none=>dsts l
def addN (x:Nat) (l:List Nat):List Nat:=match hasN x l with | true=>l | false=>x::l
def addNs:List Nat->List Nat->List Nat
 | [],m=>m
 | x::l,m=>addN x (addNs l m)
def bindsE (e:Edge):Bool:=match e.ground with | .textOnly _=>false | .gcOnly _=>false | _=>true
def edgesL:List Edge->List Nat
 | []=>[]
 | e::l=>match bindsE e with | true=>e.on::edgesL l | false=>edgesL l
def getL (l:List (List Nat)) (j:Nat):List Nat:=match nth l j with | some x=>x | none=>[]
def ancF (acc:List (List Nat)):List Nat->List Nat
 | []=>[]
 | e::l=>addN e (addNs (getL acc e) (ancF acc l))
def ancs:List (List Nat)->List Oper->List (List Nat)
 | acc,[]=>acc
 | acc,o::l=>ancs (acc++[ancF acc (edgesL o.after.toList)]) l
def gdLt:Nat->List Oper->Bool
 | _,[]=>true
 | i,o::l=>(match o.guard with | some (j,_)=>Nat.blt j i | none=>true)&&gdLt (i+1) l
def edgeLt:Nat->List Oper->Bool
 | _,[]=>true
 | j,o::l=>allLt j (edgesL o.after.toList)&&edgeLt (j+1) l
def gdAnc (A:List (List Nat)):Nat->List Oper->Bool
 | _,[]=>true
 | i,o::l=>(match o.guard with | some (j,_)=>hasN j (getL A i) | none=>true)&&gdAnc A (i+1) l
def apartAll (A:List (List Nat)):Nat->List Fp->List Fp->Bool
 | _,_,[]=>true
 | j,done,x::l=>go (getL A j) 0 done x&&apartAll A (j+1) (done++[x]) l
 where go (n:List Nat):Nat->List Fp->Fp->Bool
 | _,[],_=>true
 | i,y::m,x=>(match hasN i n with | true=>true | false=>apart y x)&&go n (i+1) m x
def dropGs:List (Nat×AV)->List (Nat×AV)
 | []=>[]
 | (k,v)::l=>(k,dropG v)::dropGs l
def execReg {R:Type} (X:Ctx) (E:Env R) (ops:Array Oper) (draw:Bool) (s:St) (K:St->Option R):Option R :=
 match nodupN (dsts ops.toList)&&(allLt X.nt (dsts ops.toList)&&(Nat.ble X.nt 1500&&gdLt 0 ops.toList)) with
 | false=>none
 | true=>execOps X E ops draw ops.toList s [] fun s' fp=>match draw with
  | false=>K ⟨dropGs s'.tm,s'.vs,s'.rs⟩
  | true=>match edgeLt 0 ops.toList&&(gdAnc (ancs [] ops.toList) 0 ops.toList&&apartAll (ancs [] ops.toList) 0 [] fp) with
   | true=>K ⟨dropGs s'.tm,s'.vs,s'.rs⟩
   | false=>none
inductive Val | b (x:Bool) | i (k:IntKind) (n:Int) | s (x:ByteArray) | l (τ:Ty) (xs:List (El τ)) | n (x:Nat)
inductive Sh | un | b | i (k:IntKind) | s | nl (τ:Ty) | sw (r:Nat) | sl (r:Nat) | nw (r c:Nat) | ns (r c:Nat) | pv (v c:Nat) | pe (r c:Nat) | pn (r c d:Nat) | fn (f:Nat) (caps:List Nat)
inductive ShA | c (x:Sh) | a (l:List Sh) | t (l:List (Bool×List Sh))
structure Sk where
 tm:List (Nat×ShA)
 vs:List (Nat×List Sh)
 rs:List (Nat×(Ty×Nat))
def flC:Cv->Sh×List Val
 | .un=>(.un,[]) | .b x=>(.b,[.b x]) | .i k n=>(.i k,[.i k n]) | .s x=>(.s,[.s x]) | .nl τ=>(.nl τ,[])
 | .sw r=>(.sw r,[]) | .sl r a b=>(.sl r,[.n a,.n b]) | .nw r e c=>(.nw r c,[.n e]) | .ns r e c a b=>(.ns r c,[.n e,.n a,.n b])
 | .pv v c=>(.pv v c,[]) | .pe r e c=>(.pe r c,[.n e]) | .pn r e c k d=>(.pn r c d,[.n e,.n k]) | .fn f caps=>(.fn f caps,[])
def flL:List Cv->List Sh×List Val
 | []=>([],[])
 | x::l=>let (a,v):=flC x
  let (b,w):=flL l
  (a::b,v++w)
def flT:List (Bool×List Cv)->List (Bool×List Sh)×List Val
 | []=>([],[])
 | (t,x)::l=>let (a,v):=flL x
  let (b,w):=flT l
  ((t,a)::b,v++w)
def flA:AV->ShA×List Val
 | .c x=>let (a,v):=flC x
  (.c a,v)
 | .a l=>let (a,v):=flL l
  (.a a,v)
 | .t l=>let (a,v):=flT l
  (.t a,v)
 | .g .. =>(.c .un,[])
def flTm:List (Nat×AV)->List (Nat×ShA)×List Val
 | []=>([],[])
 | (k,x)::l=>let (a,v):=flA x
  let (b,w):=flTm l
  ((k,a)::b,v++w)
def flVs:List (Nat×List Cv)->List (Nat×List Sh)×List Val
 | []=>([],[])
 | (k,x)::l=>let (a,v):=flL x
  let (b,w):=flVs l
  ((k,a)::b,v++w)
def flRs:List (Nat×Row)->List (Nat×(Ty×Nat))×List Val
 | []=>([],[])
 | (k,x)::l=>let (b,w):=flRs l
  ((k,(x.τ,x.ow))::b,.l x.τ x.xs::w)
def flat (s:St):Sk×List Val :=
 let (a,v):=flTm s.tm
 let (b,w):=flVs s.vs
 let (c,u):=flRs s.rs
 (⟨a,b,c⟩,v++(w++u))
def unC:Sh->List Val->Option (Cv×List Val)
 | .un,l=>some (.un,l) | .b,.b x::l=>some (.b x,l) | .i _,.i k n::l=>some (.i k n,l) | .s,.s x::l=>some (.s x,l) | .nl τ,l=>some (.nl τ,l)
 | .sw r,l=>some (.sw r,l) | .sl r,.n a:: .n b::l=>some (.sl r a b,l) | .nw r c,.n e::l=>some (.nw r e c,l)
 | .ns r c,.n e:: .n a:: .n b::l=>some (.ns r e c a b,l) | .pv v c,l=>some (.pv v c,l) | .pe r c,.n e::l=>some (.pe r e c,l)
 | .pn r c d,.n e:: .n k::l=>some (.pn r e c k d,l) | .fn f caps,l=>some (.fn f caps,l)
 | _,_=>none
def unL:List Sh->List Val->Option (List Cv×List Val)
 | [],l=>some ([],l)
 | a::b,l=>match unC a l with
  | some (x,l)=>match unL b l with | some (y,l)=>some (x::y,l) | none=>none
  | none=>none
def unT:List (Bool×List Sh)->List Val->Option (List (Bool×List Cv)×List Val)
 | [],l=>some ([],l)
 | (t,a)::b,l=>match unL a l with
  | some (x,l)=>match unT b l with | some (y,l)=>some ((t,x)::y,l) | none=>none
  | none=>none
def unA:ShA->List Val->Option (AV×List Val)
 | .c a,l=>match unC a l with | some (x,l)=>some (.c x,l) | none=>none
 | .a a,l=>match unL a l with | some (x,l)=>some (.a x,l) | none=>none
 | .t a,l=>match unT a l with | some (x,l)=>some (.t x,l) | none=>none
def unTm:List (Nat×ShA)->List Val->Option (List (Nat×AV)×List Val)
 | [],l=>some ([],l)
 | (k,a)::b,l=>match unA a l with
  | some (x,l)=>match unTm b l with | some (y,l)=>some ((k,x)::y,l) | none=>none
  | none=>none
def unVs:List (Nat×List Sh)->List Val->Option (List (Nat×List Cv)×List Val)
 | [],l=>some ([],l)
 | (k,a)::b,l=>match unL a l with
  | some (x,l)=>match unVs b l with | some (y,l)=>some ((k,x)::y,l) | none=>none
  | none=>none
def unRs:List (Nat×(Ty×Nat))->List Val->Option (List (Nat×Row))
 | [],[]=>some []
 | (k,(_,ow))::b,.l τ xs::l=>match unRs b l with | some y=>some ((k,⟨τ,xs,ow⟩)::y) | none=>none
 | _,_=>none
def unflat (k:Sk) (l:List Val):Option St :=
 match unTm k.tm l with
 | none=>none
 | some (a,l)=>match unVs k.vs l with
  | none=>none
  | some (b,l)=>match unRs k.rs l with
   | none=>none
   | some c=>some ⟨a,b,c⟩
def eqNs:List Nat->List Nat->Bool
 | [],[]=>true
 | a::l,b::m=>Nat.beq a b&&eqNs l m
 | _,_=>false
def eqSh:Sh->Sh->Bool
 | .un,.un | .b,.b | .s,.s=>true
 | .i a,.i b=>kEq a b
 | .nl a,.nl b=>tEq a b
 | .sw a,.sw b | .sl a,.sl b=>Nat.beq a b
 | .nw a b,.nw c d | .ns a b,.ns c d | .pv a b,.pv c d | .pe a b,.pe c d=>Nat.beq a c&&Nat.beq b d
 | .pn a b c,.pn d e f=>Nat.beq a d&&(Nat.beq b e&&Nat.beq c f)
 | .fn a l,.fn b m=>Nat.beq a b&&eqNs l m
 | _,_=>false
def eqL:List Sh->List Sh->Bool
 | [],[]=>true
 | a::l,b::m=>eqSh a b&&eqL l m
 | _,_=>false
def eqTs:List (Bool×List Sh)->List (Bool×List Sh)->Bool
 | [],[]=>true
 | (x,a)::l,(y,b)::m=>(match x,y with | true,true | false,false=>true | _,_=>false)&&(eqL a b&&eqTs l m)
 | _,_=>false
def eqA:ShA->ShA->Bool
 | .c a,.c b=>eqSh a b
 | .a a,.a b=>eqL a b
 | .t a,.t b=>eqTs a b
 | _,_=>false
def eqTm:List (Nat×ShA)->List (Nat×ShA)->Bool
 | [],[]=>true
 | (x,a)::l,(y,b)::m=>Nat.beq x y&&(eqA a b&&eqTm l m)
 | _,_=>false
def eqVs:List (Nat×List Sh)->List (Nat×List Sh)->Bool
 | [],[]=>true
 | (x,a)::l,(y,b)::m=>Nat.beq x y&&(eqL a b&&eqVs l m)
 | _,_=>false
def eqRs:List (Nat×(Ty×Nat))->List (Nat×(Ty×Nat))->Bool
 | [],[]=>true
 | (x,(a,b))::l,(y,(c,d))::m=>Nat.beq x y&&(tEq a c&&((leK d b&&(match d with | 1=>Nat.beq b 1||(Nat.blt x 100000||Nat.ble 400000 x) | _=>true))&&eqRs l m))
 | _,_=>false
def eqSk (a b:Sk):Bool:=eqTm a.tm b.tm&&(eqVs a.vs b.vs&&eqRs a.rs b.rs)
def rowsIn:List Cv->List Nat->List Nat
 | [],acc=>acc
 | x::l,acc=>match x.row with
  | some r=>match idxO r 0 acc with
   | some _=>rowsIn l acc
   | none=>rowsIn l (acc++[r])
  | none=>rowsIn l acc
def allIn:List Nat->List Nat->Bool
 | [],_=>true
 | x::l,m=>match idxO x 0 m with | some _=>allIn l m | none=>false
def rnCv (ρ:List (Nat×Nat)) (vk:List Nat) (x:Cv):Cv:=match x with
 | .sw r=>match lk ρ r with | some k=> .sw k | none=> .un
 | .sl r a b=>match lk ρ r with | some k=> .sl k a b | none=> .un
 | .nw r a b=>match lk ρ r with | some k=> .nw k a b | none=> .un
 | .ns r a b c d=>match lk ρ r with | some k=> .ns k a b c d | none=> .un
 | .pe r a b=>match lk ρ r with | some k=> .pe k a b | none=> .un
 | .pn r a b c d=>match lk ρ r with | some k=> .pn k a b c d | none=> .un
 | .pv v _=>match idxO v 0 vk with | some _=>x | none=> .un
 | .fn _ caps=>match allIn caps vk with | true=>x | false=> .un
 | x=>x
def keepK (r:Nat) (row:Row):Bool:=match Nat.ble 100000 r,Nat.ble r 299999,Nat.ble r 399999,row.ow with
 | true,false,true,1=>true
 | true,true,_,1=>false
 | true,true,_,3=>false
 | true,true,_,_=>true
 | _,_,_,_=>false
def Lk.nlC (m:Lk) (k:Nat) (x:Cv):Cv×List (Nat×Row):=match x with
 | .nl τ=>(.sw k,[(k,⟨τ,[],5⟩)])
 | .sw r=>match m.r r with
  | some row=>match keepK r row,row.ow with
   | false,1=>(.sw k,[(k,row)])
   | false,3=>(.sw k,[(k,row)])
   | _,_=>(x,[])
  | none=>(x,[])
 | .sl .. | .nw .. | .ns .. =>match m.immC x,(m.vw x).ct with
  | true,some (.l τ ys)=>(.sw k,[(k,⟨τ,ys,match x.row with | some r=>(match m.r r with | some row=>row.ow | none=>1) | none=>1⟩)])
  | _,_=>(x,[])
 | x=>(x,[])
def Lk.nlL (m:Lk):Nat->List Cv->List Cv×List (Nat×Row)
 | _,[]=>([],[])
 | k,x::l=>match m.nlC k x,m.nlL (k+1) l with
  | (y,r),(cs,rs)=>(y::cs,r++rs)
def Lk.nlTm (m:Lk):Nat->List (Nat×AV)->List (Nat×AV)×List (Nat×Row)
 | _,[]=>([],[])
 | k,(t,.c x)::l=>match m.nlC k x,m.nlTm (k+64) l with
  | (y,r),(n,rs)=>((t,.c y)::n,r++rs)
 | k,(t,.a x)::l=>match m.nlL k x,m.nlTm (k+64) l with
  | (y,r),(n,rs)=>((t,.a y)::n,r++rs)
 | k,p::l=>match m.nlTm (k+64) l with | (n,rs)=>(p::n,rs)
def Lk.nlVs (m:Lk):Nat->List (Nat×List Cv)->List (Nat×List Cv)×List (Nat×Row)
 | _,[]=>([],[])
 | k,(v,x)::l=>match m.nlL k x,m.nlVs (k+64) l with
  | (y,r),(n,rs)=>((v,y)::n,r++rs)
def pickT (s:St):List Nat->List (Nat×AV)
 | []=>[]
 | t::l=>(t,dropG (s.get t))::pickT s l
def pickVs (vs:List (Nat×List Cv)):List Nat->List (Nat×List Cv)
 | []=>[]
 | v::l=>match lk vs v with | some cs=>(v,cs)::pickVs vs l | none=>pickVs vs l
def renOf (rs:List (Nat×Row)):Nat->List Nat->List (Nat×Nat)
 | _,[]=>[]
 | k,r::l=>match lk rs r with
  | some row=>(r,match keepK r row with | true=>r | false=>500000+k)::renOf rs (k+1) l
  | none=>renOf rs (k+1) l
def rowsNew (rs:List (Nat×Row)):List (Nat×Nat)->List (Nat×Row)
 | []=>[]
 | (r,k)::l=>match lk rs r with
  | some row=>(k,row)::rowsNew rs l
  | none=>rowsNew rs l
def tmCs:List (Nat×AV)->List Cv
 | []=>[]
 | (_,v)::l=>v.cvs++tmCs l
def mapTm (f:Cv->Cv):List (Nat×AV)->List (Nat×AV)
 | []=>[]
 | (k,v)::l=>(k,mapV f v)::mapTm f l
def mapVs (f:Cv->Cv):List (Nat×List Cv)->List (Nat×List Cv)
 | []=>[]
 | (k,v)::l=>(k,fmap f v)::mapVs f l
def freeze (fz:List Nat):List (Nat×Row)->List (Nat×Row)
 | []=>[]
 | (k,row)::l=>match hasN k fz&&(Nat.ble 1 row.ow&&Nat.ble row.ow 5),Nat.ble 300000 k&&(Nat.ble k 399999&&Nat.beq row.ow 2) with
  | true,false=>(k,{ row with ow:=fzK row.ow })::freeze fz l
  | _,_=>(k,row)::freeze fz l
def kindsOk:List (Nat×Row)->Bool
 | []=>true
 | (_,row)::l=>(Nat.ble 1 row.ow&&Nat.ble row.ow 5)&&kindsOk l
def St.freeze (s:St) (fz:List Nat):St:=match fz with
 | []=>s
 | _=>{ s with rs:=Soft.freeze (rksA (fmap s.get fz)) s.rs }
def St.prune (s:St) (ts vk:List Nat):St :=
 match s.lk.nlTm 600000 (pickT s ts),s.lk.nlVs 700000 (pickVs s.vs vk) with
 | (tm,r1),(vs,r2)=>match nodupN (keys (r1++r2))&&(disjN (keys (r1++r2)) (keys s.rs)&&kindsOk s.rs) with
  | false=>⟨[],[],[]⟩
  | true =>
   let rs:=r1++(r2++s.rs)
   let ρ:=renOf rs 0 (rowsIn (vcs vs) (rowsIn (tmCs tm) []))
   ⟨mapTm (rnCv ρ (keys vs)) tm,mapVs (rnCv ρ (keys vs)) vs,rowsNew rs ρ⟩
structure Ann where
 ts:List Nat
 vk:List Nat
 sk:List Sk
 out:List (Nat×(List Nat×List Nat))
 fz:List Nat
abbrev Live:=List (Nat×Ann)
def Ex.num:Ex->Nat
 | .normal=>0 | .ret=>0 | .exit i=>i+1
def Ann.leave (A:Ann) (e:Ex) (s:St):St:=match lk A.out e.num with
 | some (ts,vk)=>s.prune ts vk
 | none=>s
def loopId:Code->Nat
 | .region id _ _=>id
 | .seq a _=>loopId a
 | .block _ c=>loopId c
 | .loop c=>loopId c
 | _=>0
abbrev Loop (R:Type):=Nat->Nat->List Val->(Ex->St->Option R)->Option R
def formOf (k:Sk):Nat->List Sk->Option Nat
 | _,[]=>none
 | i,s::l=>match eqSk k s with | true=>some i | false=>formOf k (i+1) l
def exec {R:Type} (X:Ctx) (E:Env R) (L:Live) (lp:Loop R):Code->St->(Ex->St->Option R)->Option R
 | .skip,s,K=>K .normal s
 | .region _ ops draw,s,K=>execReg X E ops draw s (K .normal)
 | .seq a b,s,K=>exec X E L lp a s fun e s'=>match e with
  | .normal=>exec X E L lp b s' K
  | e=>K e s'
 | .cond c a b,s,K=>match X.opnd s [] 0 c with
  | .c (.b x)=>bif x then exec X E L lp a s K else exec X E L lp b s K
  | _=>none
 | .block id c,s,K=>exec X E L lp c s fun e s'=>match e with
  | .exit i=>match Nat.beq i id with
   | true=>K .normal s'
   | false=>K e s'
  | e=>K e s'
 | .loop c,s,K=>match lk L (loopId c) with
  | none=>none
  | some A=>match flat ((s.freeze A.fz).prune A.ts A.vk) with
   | (k,l)=>match formOf k 0 A.sk with
    | some i=>lp (loopId c) i l K
    | none=>none
 | .exit id,s,K=>K (.exit id) s
 | .ret,s,K=>K .ret s
 | _,_,_=>none
def round {R:Type} (X:Ctx) (E:Env R) (L:Live) (lp:Loop R) (c:Code) (i:Nat) (l:List Val) (K:Ex->St->Option R):Option R :=
 match lk L (loopId c) with
 | none=>none
 | some A=>match (match nth A.sk i with | some k=>unflat k l | none=>none) with
  | none=>none
  | some s=>exec X E L lp c s fun e s'=>match e with
   | .normal=>exec X E L lp (.loop c) s' K
   | e=>K e (A.leave e s')
def kd (w m:Nat):Nat:=match w with | 0=>(match m with | 0=>1 | m=>m) | w=>w
def entC (k:Nat) (w:Nat) (ms:List Nat):Nat->List Ct->List Cv×List (Nat×Row)
 | _,[]=>([],[])
 | j,y::ys=>match entC k w (tl ms) (j+1) ys with
  | (cs,rs)=>match y with
   | .u=>(.un::cs,rs) | .b x=>(.b x::cs,rs) | .i a n=>(.i a n::cs,rs) | .s x=>(.s x::cs,rs)
   | .l τ xs=>(.sw (k+j)::cs,(k+j,⟨τ,xs,kd w (hd ms)⟩)::rs)
def entA (am:List Nat):Nat->List AC->List AV×List (Nat×Row)
 | _,[]=>([],[])
 | p,x::l=>match entA (tl am) (p+1) l with
  | (vs,rs) =>
   let w:Nat:=kd 0 (hd am)
   match x with
   | .c y=>match entC (100000+p*64) w [] 0 [y] with
    | ([c],r)=>(.c c::vs,r++rs)
    | _=>(.c .un::vs,rs)
   | .a ys=>match entC (100000+p*64) w [] 0 ys with
    | (cs,r)=>(.a cs::vs,r++rs)
   | .p k=>(.c (.pv k 0)::vs,rs)
   | .f g ks=>(.c (.fn g ks)::vs,rs)
   | .al k c=>(.c (.sw (300000+k*64+c))::vs,rs)
   | .io τ xs=>(.c (.sw (200000+p*64))::vs,(200000+p*64,⟨τ,xs,5⟩)::rs)
def entV:Nat->List (List Nat)->List (List Ct)->List (Nat×List Cv)×List (Nat×Row)
 | _,_,[]=>([],[])
 | k,ms,l::vin=>match entV (k+1) (tl ms) vin,entC (300000+k*64) 0 (hdL ms) 0 l with
  | (vs,rs),(cs,r)=>((k,cs)::vs,r++rs)
def zipT:Nat->List AV->List (Nat×AV)
 | _,[]=>[]
 | n,v::l=>(n,v)::zipT (n+1) l
def entry (g:Sig) (acs:List AC) (vin:List (List Ct)):St :=
 match entA g.am 0 acs,entV 0 g.vl vin with
 | (as,rs),(vs,rs')=>⟨zipT 0 as,vs,rs++rs'⟩
def keyA (r:Nat):Option (Nat×Nat):=match Nat.ble 100000 r,Nat.ble r 199999 with
 | true,true=>some ((r-100000)/64,(r-100000) % 64)
 | _,_=>none
def Lk.bor1 (m:Lk) (r:Nat):Bool:=match m.r r with | some row=>Nat.beq row.ow 1 | none=>false
def shCs:List Nat->List Cv->List Nat
 | _,[]=>[]
 | ms,x::l=>(match hd ms with | 1=>x.rk | _=>[])++shCs (tl ms) l
def shTs:List (List Nat)->List (Bool×List Cv)->List Nat
 | _,[]=>[]
 | ms,(_,x)::l=>shCs (hdL ms) x++shTs (tl ms) l
def Lk.shR (m:Lk) (rl:List (List Nat)):AV->List Nat
 | .c x=>match x with
  | .pv v _=>match m.v v with | some cs=>shCs (hdL rl) cs | none=>[]
  | x=>shCs (hdL rl) [x]
 | .a l=>shCs (hdL rl) l
 | .t l=>shTs rl l
 | .g .. =>[]
def slK (off w:Nat):Bool:=match off with | 0=>hdK w | _=>Nat.beq w 3
def Lk.outC (m:Lk) (w:Nat) (x:Cv):Option (Rc×List Nat):=match x with
 | .b y=>some (.c (.b y),[]) | .i k n=>some (.c (.i k n),[]) | .s y=>some (.c (.s y),[])
 | .un=>match w with
  | 7=>some (.un,[])
  | _=>none
 | .nl τ=>match w with
  | 1=>some (.m (.l τ []),[])
  | 7=>some (.un,[])
  | 6=>some (.c (.l τ []),[])
  | w=>match hdK w with | true=>some (.c (.l τ []),[]) | false=>none
 | x=>match w with
  | 1=>match (m.vw x).ct with | some y=>some (.m y,[]) | none=>none
  | 7=>some (.un,[])
  | 6=>match x with
   | .sw r=>match keyA r,m.bor1 r with | some (p,j),true=>some (.aw p j,[]) | _,_=>none
   | .nw r e c=>match keyA r,m.bor1 r with | some (p,j),true=>some (.al p j e c,[]) | _,_=>none
   | _=>none
  | w=>match x with
   | .sw r=>match m.r r with
    | some row=>match hdK w,leK w row.ow with
     | true,true=>some (.c (.l row.τ row.xs),[r])
     | _,_=>none
    | none=>none
   | .sl r off len=>match m.r r with
    | some row=>match slK off w,leK w row.ow with
     | true,true=>some (.c (.l row.τ (sub row.xs off len)),[r])
     | _,_=>none
    | none=>none
   | _=>none
def Lk.outCs (m:Lk):List Nat->List Cv->Option (List Rc×List Nat)
 | _,[]=>some ([],[])
 | ms,x::l=>match m.outC (hd ms) x,m.outCs (tl ms) l with
  | some (y,a),some (ys,b)=>some (y::ys,a++b)
  | _,_=>none
def Lk.outTs (m:Lk):List (List Nat)->List (Bool×List Cv)->Option (List (Bool×List Rc)×List Nat)
 | _,[]=>some ([],[])
 | ms,(b,x)::l=>match m.outCs (hdL ms) x,m.outTs (tl ms) l with
  | some (y,a),some (ys,c)=>some ((b,y)::ys,a++c)
  | _,_=>none
def Lk.outR (m:Lk) (rl:List (List Nat)):AV->Option (RC×List Nat)
 | .c x=>match x with
  | .pv v c=>match Nat.ble 1000 v,Nat.beq c 0,m.v v with
   | true,true,some cs=>match m.outCs (hdL rl) cs with | some (y,a)=>some (.np y,a) | none=>none
   | _,_,_=>none
  | .un=>none
  | x=>match m.outC (hd (hdL rl)) x with | some (y,a)=>some (.c y,a) | none=>none
 | .a l=>match m.outCs (hdL rl) l with | some (y,a)=>some (.a y,a) | none=>none
 | .t l=>match l with
  | []=>some (.u,[])
  | _=>match m.outTs rl l with | some (y,a)=>some (.t y,a) | none=>none
 | .g .. =>none
def Lk.outV (m:Lk) (k:Nat):Nat->List Nat->List Cv->Option (List Ct×List Nat)
 | _,_,[]=>some ([],[])
 | j,ms,x::l=>match m.outV k (j+1) (tl ms) l with
  | none=>none
  | some (ys,a')=>match hd ms with
   | 0=>match x with
    | .b y=>some (.b y::ys,a') | .i k n=>some (.i k n::ys,a') | .s y=>some (.s y::ys,a')
    | _=>none
   | 1=>match x with
    | .sw r=>match Nat.beq r (300000+k*64+j)&&(Nat.ble r 399999&&m.bor1 r),m.ct x with
     | true,some y=>some (y::ys,a')
     | _,_=>none
    | _=>none
   | w=>match x with
    | .nl τ=>match hdK w with | true=>some (.l τ []::ys,a') | false=>none
    | .sw r=>match m.r r with
     | some row=>match hdK w,leK w row.ow with
      | true,true=>some (.l row.τ row.xs::ys,r::a')
      | _,_=>none
     | none=>none
    | _=>none
def Lk.outVs (m:Lk):Nat->List (List Nat)->Option (List (List Ct)×List Nat)
 | _,[]=>some ([],[])
 | k,w::ms=>match m.v k,m.outVs (k+1) ms with
  | some cs,some (ys,a')=>match m.outV k 0 w cs with
   | some (y,a)=>some (y::ys,a++a')
   | none=>none
  | _,_=>none
def Lk.outIo (m:Lk):Nat->List AC->Option (List Ct×List Nat)
 | _,[]=>some ([],[])
 | p,.io τ _::l=>match m.r (200000+p*64),m.outIo (p+1) l with
  | some row,some (ys,a)=>match Nat.beq row.ow 5&&Nat.ble p 1500,tEq row.τ τ with
   | true,true=>some (.l row.τ row.xs::ys,(200000+p*64)::a)
   | _,_=>none
  | _,_=>none
 | p,_::l=>m.outIo (p+1) l
def resV1 (X:Ctx) (s:St):ResultVar->Option AV
 | .tmp t=>some (s.get t)
 | .cell t T=>match s.get t with
  | .c a=>match s.lk.from a with
   | some cs=>match Nat.ble (szOf X.P T) cs.length&&ldOk X.P T with
    | true=>some (mkA (isAg X.P T) (cs.take (szOf X.P T)))
    | false=>none
   | none=>none
  | _=>none
def resVs (X:Ctx) (s:St):List ResultVar->Option (List (Bool×List Cv))
 | []=>some []
 | r::l=>match resV1 X s r,resVs X s l with
  | some (.c .un),_=>none
  | some (.c x),some m=>some ((false,[x])::m)
  | some (.a x),some m=>some ((true,x)::m)
  | _,_=>none
def resV (X:Ctx) (s:St):List ResultVar->Option AV
 | [r]=>resV1 X s r
 | l=>match resVs X s l with | some m=>some (.t m) | none=>none
def St.out (X:Ctx) (g:Sig) (acs:List AC) (f:Func) (s:St):Option CR :=
 match resV X s f.results.toList with
 | none=>none
 | some v=>match s.lk.outR g.rl v,s.lk.outVs 0 g.vl,s.lk.outIo 0 acs with
  | some (rc,a),some (vo,b),some (io,c)=>match nodupN (a++(b++c))&&(disjN (s.lk.shR g.rl v) (a++(b++c))&&Nat.ble g.vl.length 1000) with
   | true=>some ⟨rc,vo,io⟩
   | false=>none
  | _,_,_=>none
def fnRun {R:Type} (X:Ctx) (E:Env R) (L:Live) (lp:Loop R) (g:Sig) (f:Func) (acs:List AC) (vin:List (List Ct)) (k:CR->Option R):Option R :=
 match f.body with
 | none=>none
 | some c=>exec (X.at f) E L lp c (entry g acs vin) fun e s=>match e with
  | .exit _=>none
  | _=>match s.out X g acs f with | some r=>k r | none=>none
def getLoop (n:Nat):Code->Option Code
 | .loop c=>match Nat.beq (loopId c) n with | true=>some c | false=>getLoop n c
 | .seq a b=>match getLoop n a with | some c=>some c | none=>getLoop n b
 | .cond _ a b=>match getLoop n a with | some c=>some c | none=>getLoop n b
 | .block _ a=>getLoop n a
 | _=>none
end Go.Soft
namespace Go.Soft
open Go
theorem lk_map {α β:Type} (f:α->β) (l:List (Nat×α)) (n:Nat):lk (l.map fun p=>(p.1,f p.2)) n=(lk l n).map f:=by
 induction l with
 | nil=>rfl
 | cons p l ih=>obtain ⟨k,v⟩:=p; simp only [List.map_cons,lk]; cases h:Nat.beq k n<;>simp [ih]
theorem nth_eq {α:Type} (l:List α) (n:Nat):nth l n=l[n]? :=by
 induction l generalizing n with
 | nil=>cases n<;>rfl
 | cons x l ih=>cases n with
  | zero=>rfl
  | succ n=>simpa [nth] using ih n
theorem cells_length (τ:Ty) (x:El τ):(cells τ x).length=sz τ:=by cases τ<;>rfl
theorem sz_pos (τ:Ty):0<sz τ:=by cases τ<;>decide
theorem cells_flat {τ:Ty} (h:τ.deep=false) (x:El τ) (ct:Ct) (hc:ct∈cells τ x):∀ σ ys,ct≠ .l σ ys:=by
 intro σ ys e; subst e; cases τ<;>simp_all [cells,Ty.deep]
theorem cells_nou {τ:Ty} (x:El τ):Ct.u∉cells τ x:=by cases τ<;>simp [cells]
theorem cells_deep {τ:Ty} (x:El τ) (σ:Ty) (ys:List (El σ)) (hc:Ct.l σ ys∈cells τ x):σ.deep=false:=by
 cases τ<;>simp [cells] at hc<;>obtain ⟨rfl,_⟩:=hc<;>rfl
inductive Ow | v (k:Nat) | r (k:Nat) | n (r e c:Nat) | fz | x deriving DecidableEq
abbrev OM:=Nat->Option Ow
structure Gh where
 O:OM
 rv:Nat->Value
 cv:Nat->List Value
 vb:Nat->Nat
inductive Cls | bor | fz | own (t:Ow)
def In:Cls->Option Ow->Prop
 | .bor,o=>o=none\/o=some .fz
 | .fz,o=>o=some .fz
 | .own t,o=>o=some t
def SlF (A:Nat->Prop) (w:World) (z:Nat) (v:Value) (n:Nat) (cs:List Value):Prop :=
 cs.length=n*z/\((v= .slice none 0 0/\n=0) \/
  ∃ g off cap cur e fz,v= .slice (some ⟨g,off,none⟩) n cap/\w.heap[g]? =some (.cells cur e fz)/\A g/\n<=cap/\off+n*z<=cur.size/\(cur.toList.drop off).take (n*z)=cs)
def Sl (X:Ctx) (O:OM) (w:World) (c:Cls) (τ:Ty) (v:Value) (n:Nat) (cs:List Value):Prop:=match c with
 | .own t=>w.ownsRow 0 (X.id τ) (sz τ) v n cs/\∀ g,v.ownBlock=some g->O g=some t
 | c=>SlF (fun g=>In c (O g)) w (sz τ) v n cs
theorem SlF.mono {A B:Nat->Prop} {w w':World} {z:Nat} {v:Value} {n:Nat} {cs:List Value} (h:SlF A w z v n cs)
  (hab:∀ g o,w.heap[g]? =some o->A g->w'.heap[g]? =some o/\B g):SlF B w' z v n cs:=by
 refine ⟨h.1,?_⟩
 rcases h.2 with hn | ⟨g,off,cap,cur,e,fz,hv,hg,ha,hr⟩
 ·exact .inl hn
 ·exact .inr ⟨g,off,cap,cur,e,fz,hv,(hab g _ hg ha).1,(hab g _ hg ha).2,hr⟩
theorem ownsRow_slF {w:World} {base:Nat} {e:TypeId} {z:Nat} {v:Value} {n:Nat} {cs:List Value} {A:Nat->Prop} (h:w.ownsRow base e z v n cs)
  (ha:∀ g,v.ownBlock=some g->A g):SlF A w z v n cs:=by
 refine ⟨h.1,?_⟩
 rcases h.2 with hn | ⟨g,cap,cur,hv,_,hg,hnc,_,hs,ht⟩
 ·exact .inl hn
 ·refine .inr ⟨g,0,cap,cur,e,(0,0),hv,hg,ha g (by simp [hv,Value.ownBlock]),hnc,?_,by simpa using ht⟩
  rw [hs,Nat.zero_add]; exact Nat.mul_le_mul_right _ hnc
theorem Sl.slF {X:Ctx} {O:OM} {w:World} {c:Cls} {τ:Ty} {v:Value} {n:Nat} {cs:List Value} (h:Sl X O w c τ v n cs):SlF (fun g=>In c (O g)) w (sz τ) v n cs:=by
 cases c with
 | own t=>exact ownsRow_slF h.1 h.2
 | _=>exact h
def Cls.isOwn:Cls->Bool
 | .own _=>true
 | _=>false
theorem Sl.re {X:Ctx} {O O':OM} {w w':World} {c c':Cls} {τ:Ty} {v:Value} {n:Nat} {cs:List Value} (h:Sl X O w c τ v n cs)
  (hab:∀ g o,w.heap[g]? =some o->In c (O g)->w'.heap[g]? =some o/\In c' (O' g)) (hc:c'.isOwn=true->c.isOwn=true):Sl X O' w' c' τ v n cs:=by
 cases c' with
 | own t =>
  cases c with
  | own s =>
   obtain ⟨hr,ho⟩:=h
   refine ⟨⟨hr.1,?_⟩,fun g hg=> ?_⟩
   ·rcases hr.2 with hn | ⟨g,cap,cur,hv,hb,hg,rest⟩
    ·exact .inl hn
    ·exact .inr ⟨g,cap,cur,hv,hb,(hab g _ hg (ho g (by simp [hv,Value.ownBlock]))).1,rest⟩
   ·rcases hr.2 with ⟨hn,_⟩ | ⟨g',cap,cur,hv,hb,hg',rest⟩
    ·simp [hn,Value.ownBlock] at hg
    ·have:g=g':=by simpa [hv,Value.ownBlock] using hg.symm
     subst this
     exact (hab g _ hg' (ho g hg)).2
  | _=>simp [Cls.isOwn] at hc
 | _=>exact h.slF.mono hab
def ctVal:Ct->Value
 | .b x=> .bool x | .i k n=> .int k n | .s x=> .string x | _=> .slice none 0 0
def fcells (τ:Ty) (ys:List (El τ)):List Value:=ys.flatMap fun y=>(cells τ y).map ctVal
def CellR (X:Ctx) (O:OM) (w:World) (c:Cls):Ct->Value->Prop
 | .u,_=>False
 | .l τ ys,v=>τ.deep=false/\Sl X O w c τ v ys.length (fcells τ ys)
 | x,v=>v=ctVal x
def topC (k ow:Nat):Cls:=match ownK ow with | true=> .own (.r k) | false=>match ow with | 3=> .fz | _=> .bor
def nesC (k e c ow:Nat):Cls:=match ow with | 5=> .own (.n k e c) | 4=> .fz | 3=> .fz | _=> .bor
structure RowR (X:Ctx) (O:OM) (w:World) (k:Nat) (row:Row) (v:Value) (cs:List Value):Prop where
 top:Sl X O w (topC k row.ow) row.τ v row.xs.length cs
 cel:∀ e c ct,e<row.xs.length->(row.cs e)[c]? =some ct->∃ u,cs[e*sz row.τ+c]? =some u/\CellR X O w (nesC k e c row.ow) ct u
theorem CellR.re {X:Ctx} {O O':OM} {w w':World} {c c':Cls} {ct:Ct} {v:Value} (h:CellR X O w c ct v)
  (hab:∀ g o,w.heap[g]? =some o->In c (O g)->w'.heap[g]? =some o/\In c' (O' g)) (hc:c'.isOwn=true->c.isOwn=true):CellR X O' w' c' ct v:=by
 cases ct with
 | u=>exact h
 | l τ ys=>exact ⟨h.1,h.2.re hab hc⟩
 | _=>exact h
theorem leK_top {d a:Nat} (h:leK d a=true) (k k':Nat):(topC k' d).isOwn=true->(topC k a).isOwn=true:=by
 intro hd
 have h1:ownK d=true:=by
  cases hk:ownK d with
  | true=>rfl
  | false =>
   exfalso; revert hd; simp only [topC,hk]
   intro hd; revert hd; split<;>simp_all [Cls.isOwn]
   all_goals (rename_i h; revert h; split<;>simp)
 have h2:ownK a=true:=by
  rcases d with _|_|_|_|_|_|d<;>simp_all [ownK,leK]<;>(revert h; split<;>simp_all [ownK])
 simp [topC,h2,Cls.isOwn]
theorem leK_nes {d a:Nat} (h:leK d a=true) (k k' e c:Nat):(nesC k' e c d).isOwn=true->(nesC k e c a).isOwn=true:=by
 intro hd
 have h1:d=5:=by
  revert hd; simp only [nesC]; split<;>simp [Cls.isOwn]
 subst h1
 have h2:a=5:=by revert h; simp only [leK]; split<;>simp_all
 subst h2; rfl
theorem RowR.re {X:Ctx} {O O':OM} {w w':World} {k k' ow':Nat} {row:Row} {v:Value} {cs:List Value} (h:RowR X O w k row v cs) (hle:leK ow' row.ow=true)
  (htop:∀ g o,w.heap[g]? =some o->In (topC k row.ow) (O g)->w'.heap[g]? =some o/\In (topC k' ow') (O' g))
  (hnes:∀ e c g o,w.heap[g]? =some o->In (nesC k e c row.ow) (O g)->w'.heap[g]? =some o/\In (nesC k' e c ow') (O' g)):RowR X O' w' k' { row with ow:=ow' } v cs :=
 ⟨h.top.re htop (leK_top hle k k'),fun e c ct he hct=>let ⟨u,hu,hr⟩:=h.cel e c ct he hct; ⟨u,hu,hr.re (hnes e c) (leK_nes hle k k' e c)⟩⟩
theorem leK_self {a:Nat} (h:a=1\/a=2\/a=3\/a=4\/a=5):leK a a=true:=by rcases h with rfl | rfl | rfl | rfl | rfl<;>rfl
def CellV (A:Nat->Prop) (w:World):Ct->Value->Prop
 | .u,_=>False
 | .l τ ys,v=>τ.deep=false/\SlF A w (sz τ) v ys.length (fcells τ ys)
 | x,v=>v=ctVal x
structure Vis (A:Nat->Prop) (w:World) (τ:Ty) (xs:List (El τ)) (v:Value) (cs:List Value):Prop where
 top:SlF A w (sz τ) v xs.length cs
 cel:∀ e c ct,e<xs.length->(cells τ (xs.getD e (dflt τ)))[c]? =some ct->∃ u,cs[e*sz τ+c]? =some u/\CellV A w ct u
def CtV (A:Nat->Prop) (w:World):Ct->Value->Prop
 | .u,_=>True
 | .l τ xs,v=>∃ cs,Vis A w τ xs v cs
 | x,v=>v=ctVal x
theorem CellV.mono {A B:Nat->Prop} {w w':World} {ct:Ct} {v:Value} (h:CellV A w ct v) (hab:∀ g o,w.heap[g]? =some o->A g->w'.heap[g]? =some o/\B g):CellV B w' ct v:=by
 cases ct with
 | u=>exact h
 | l τ ys=>exact ⟨h.1,h.2.mono hab⟩
 | _=>exact h
theorem Vis.mono {A B:Nat->Prop} {w w':World} {τ:Ty} {xs:List (El τ)} {v:Value} {cs:List Value} (h:Vis A w τ xs v cs)
  (hab:∀ g o,w.heap[g]? =some o->A g->w'.heap[g]? =some o/\B g):Vis B w' τ xs v cs :=
 ⟨h.top.mono hab,fun e c ct he hc=>let ⟨u,hu,hr⟩:=h.cel e c ct he hc; ⟨u,hu,hr.mono hab⟩⟩
def Fam (k:Nat) (o:Option Ow):Prop:=o=none\/o=some .fz\/o=some (.r k)\/∃ e c,o=some (.n k e c)
theorem In_topC {k ow:Nat} {o:Option Ow} (h:In (topC k ow) o):Fam k o:=by
 revert h; simp only [topC]; split
 ·exact fun h=> .inr (.inr (.inl h))
 ·split
  ·exact fun h=> .inr (.inl h)
  ·exact fun h=>h.elim .inl (fun h=> .inr (.inl h))
theorem In_nesC {k e c ow:Nat} {o:Option Ow} (h:In (nesC k e c ow) o):Fam k o:=by
 revert h; simp only [nesC]; split
 ·exact fun h=> .inr (.inr (.inr ⟨e,c,h⟩))
 ·exact fun h=> .inr (.inl h)
 ·exact fun h=> .inr (.inl h)
 ·exact fun h=>h.elim .inl (fun h=> .inr (.inl h))
theorem CellR.vis {X:Ctx} {O:OM} {w:World} {c:Cls} {ct:Ct} {v:Value} {A:Nat->Prop} (h:CellR X O w c ct v) (ha:∀ g,In c (O g)->A g):CellV A w ct v:=by
 cases ct with
 | u=>exact h
 | l τ ys=>exact ⟨h.1,h.2.slF.mono fun g o hg hi=>⟨hg,ha g hi⟩⟩
 | _=>exact h
theorem RowR.vis {X:Ctx} {O:OM} {w:World} {k:Nat} {row:Row} {v:Value} {cs:List Value} (h:RowR X O w k row v cs) {A:Nat->Prop} (ha:∀ g,Fam k (O g)->A g):Vis A w row.τ row.xs v cs :=
 ⟨h.top.slF.mono fun g o hg hi=>⟨hg,ha g (In_topC hi)⟩,fun e c ct he hc=>let ⟨u,hu,hr⟩:=h.cel e c ct he hc; ⟨u,hu,hr.vis fun g hi=>ha g (In_nesC hi)⟩⟩
theorem Vis.of_bor {X:Ctx} {O:OM} {w:World} {k:Nat} {τ:Ty} {xs:List (El τ)} {v:Value} {cs:List Value} (h:Vis (fun g=>In .bor (O g)) w τ xs v cs):RowR X O w k ⟨τ,xs,1⟩ v cs:=by
 refine ⟨h.top,fun e c ct he hc=> ?_⟩
 obtain ⟨u,hu,hr⟩:=h.cel e c ct he hc
 refine ⟨u,hu,?_⟩
 cases ct with
 | u=>exact hr
 | l σ ys=>exact hr
 | _=>exact hr
theorem Vis.of_fz {X:Ctx} {O:OM} {w:World} {k:Nat} {τ:Ty} {xs:List (El τ)} {v:Value} {cs:List Value} (h:Vis (fun g=>In .fz (O g)) w τ xs v cs):RowR X O w k ⟨τ,xs,3⟩ v cs:=by
 refine ⟨h.top,fun e c ct he hc=> ?_⟩
 obtain ⟨u,hu,hr⟩:=h.cel e c ct he hc
 refine ⟨u,hu,?_⟩
 cases ct with
 | u=>exact hr
 | l σ ys=>exact hr
 | _=>exact hr
def SubV (z:Nat) (b:Value) (off len:Nat) (v:Value):Prop :=
 (b= .slice none 0 0/\v= .slice none 0 0/\len=0) \/
 ∃ g o n cap o' cap',b= .slice (some ⟨g,o,none⟩) n cap/\v= .slice (some ⟨g,o',none⟩) len cap'/\(len<=cap'/\cap'=cap-off)/\o<=o'/\o'<=o+off*z/\(len=0\/o'=o+off*z)
theorem sub_length {α:Type} (xs:List α) {off len:Nat} (h:off+len<=xs.length):(sub xs off len).length=len:=by
 simp [sub]; omega
theorem sub_getD {α:Type} (xs:List α) {off len e:Nat} (d:α) (he:e<len):(sub xs off len).getD e d=xs.getD (off+e) d:=by
 simp [sub,List.getD,List.getElem?_take,he]
theorem SlF.sub {A:Nat->Prop} {w:World} {z:Nat} {v:Value} {n:Nat} {cs:List Value} (h:SlF A w z v n cs) {off len:Nat} (hle:off+len<=n) {u:Value} (hs:SubV z v off len u) :
  SlF A w z u len ((cs.drop (off*z)).take (len*z)):=by
 have hlen:((cs.drop (off*z)).take (len*z)).length=len*z:=by
  have h1:=h.1
  have h2:(off+len)*z<=n*z:=Nat.mul_le_mul_right _ hle
  rw [Nat.add_mul] at h2
  simp [List.length_take,List.length_drop]; omega
 refine ⟨hlen,?_⟩
 rcases hs with ⟨_,hu,h0⟩ | ⟨g,o,n',cap,o',cap',hb,hu,hlc,ho1,ho2,ho3⟩
 ·exact .inl ⟨hu,h0⟩
 ·rcases h.2 with ⟨hn,_⟩ | ⟨g1,off1,cap1,cur,e,fz,hv,hg,ha,_,hsz,ht⟩
  ·rw [hn] at hb; cases hb
  ·rw [hv] at hb
   obtain ⟨rfl,rfl⟩:g1=g/\off1=o:=by
    injection hb with h1 _ _; injection h1 with h1; injection h1 with h1 h2 _; exact ⟨h1,h2⟩
   have h2:(off+len)*z<=n*z:=Nat.mul_le_mul_right _ hle
   rw [Nat.add_mul] at h2
   refine .inr ⟨g1,o',cap',cur,e,fz,hu,hg,ha,hlc.1,?_,?_⟩
   ·rcases ho3 with h0 | h0
    ·subst h0; simp; omega
    ·omega
   ·rcases ho3 with h0 | h0
    ·subst h0; simp
    ·subst h0
     rw [← ht,List.drop_take,List.take_take,List.drop_drop]
     congr 1; omega
theorem Vis.sub {A:Nat->Prop} {w:World} {τ:Ty} {xs:List (El τ)} {v:Value} {cs:List Value} (h:Vis A w τ xs v cs) {off len:Nat} (hle:off+len<=xs.length) {u:Value}
  (hs:SubV (sz τ) v off len u):Vis A w τ (Soft.sub xs off len) u ((cs.drop (off*sz τ)).take (len*sz τ)):=by
 have hl:=sub_length xs hle
 refine ⟨by rw [hl]; exact h.top.sub hle hs,fun e c ct he hc=> ?_⟩
 rw [hl] at he
 rw [sub_getD xs _ he] at hc
 obtain ⟨x,hx,hr⟩:=h.cel (off+e) c ct (by omega) hc
 refine ⟨x,?_,hr⟩
 have hc':c<sz τ:=by
  have:=(List.getElem?_eq_some_iff.1 hc).1
  rwa [cells_length] at this
 have:e*sz τ+c<len*sz τ:=by
  have:=Nat.mul_le_mul_right (sz τ) (show e+1<=len from he)
  rw [Nat.add_mul] at this; omega
 rw [List.getElem?_take,if_pos this,List.getElem?_drop,← hx]
 congr 1; rw [Nat.add_mul]; omega
theorem getElem?_flatMap_cells (τ:Ty) (ys:List (El τ)):∀ e c,e<ys.length->c<sz τ->(fcells τ ys)[e*sz τ+c]? =((cells τ (ys.getD e (dflt τ)))[c]?).map ctVal:=by
 induction ys with
 | nil=>intro e c he; simp at he
 | cons y ys ih =>
  intro e c he hc
  have hl:((cells τ y).map ctVal).length=sz τ:=by simp [cells_length]
  simp only [fcells,List.flatMap_cons]
  cases e with
  | zero=>rw [List.getElem?_append_left (by rw [hl]; simpa using hc)]; simp
  | succ e =>
   rw [List.getElem?_append_right (by rw [hl,Nat.add_mul]; omega),hl]
   have:=ih e c (by simpa using he) hc
   simp only [fcells] at this
   simpa [show (e+1)*sz τ+c-sz τ=e*sz τ+c by rw [Nat.add_mul]; omega] using this
theorem fcells_length (τ:Ty) (ys:List (El τ)):(fcells τ ys).length=ys.length*sz τ:=by
 induction ys with
 | nil=>simp [fcells]
 | cons y ys ih=>simp only [fcells,List.flatMap_cons,List.length_append,List.length_map,cells_length,List.length_cons,Nat.add_mul] at ih ⊢; omega
theorem Vis.of_flat {A:Nat->Prop} {w:World} {τ:Ty} {ys:List (El τ)} {v:Value} (hd:τ.deep=false) (h:SlF A w (sz τ) v ys.length (fcells τ ys)):Vis A w τ ys v (fcells τ ys):=by
 refine ⟨h,fun e c ct he hc=> ?_⟩
 have hc':c<sz τ:=by
  have:=(List.getElem?_eq_some_iff.1 hc).1
  rwa [cells_length] at this
 refine ⟨ctVal ct,by rw [getElem?_flatMap_cells τ ys e c he hc',hc]; rfl,?_⟩
 have hm:ct∈cells τ (ys.getD e (dflt τ)):=List.mem_of_getElem? hc
 cases ct with
 | u=>exact absurd hm (cells_nou _)
 | l σ zs=>exact absurd rfl (cells_flat hd _ _ hm σ zs)
 | _=>rfl
theorem Vis.flat {A:Nat->Prop} {w:World} {τ:Ty} {ys:List (El τ)} {v:Value} {cs:List Value} (hd:τ.deep=false) (h:Vis A w τ ys v cs):cs=fcells τ ys:=by
 have hz:=sz_pos τ
 apply List.ext_getElem?
 intro i
 by_cases hi:i<ys.length*sz τ
 ·have he:i/sz τ<ys.length:=Nat.div_lt_of_lt_mul (by rwa [Nat.mul_comm])
  have hc:i % sz τ<sz τ:=Nat.mod_lt _ hz
  have hie:i/sz τ*sz τ+i % sz τ=i:=by rw [Nat.mul_comm]; exact Nat.div_add_mod i (sz τ)
  have hcc:(cells τ (ys.getD (i/sz τ) (dflt τ)))[i % sz τ]? =some ((cells τ (ys.getD (i/sz τ) (dflt τ)))[i % sz τ]'(by rw [cells_length]; exact hc)):=List.getElem?_eq_getElem _
  obtain ⟨u,hu,hr⟩:=h.cel _ _ _ he hcc
  have h2:=getElem?_flatMap_cells τ ys _ _ he hc
  rw [hie] at hu h2
  rw [hu,h2,hcc]
  have hm:(cells τ (ys.getD (i/sz τ) (dflt τ)))[i % sz τ]'(by rw [cells_length]; exact hc)∈cells τ (ys.getD (i/sz τ) (dflt τ)):=List.getElem_mem _
  revert hr hm
  generalize (cells τ (ys.getD (i/sz τ) (dflt τ)))[i % sz τ]'(by rw [cells_length]; exact hc)=ct
  intro hr hm
  cases ct with
  | u=>exact absurd hm (cells_nou _)
  | l σ zs=>exact absurd rfl (cells_flat hd _ _ hm σ zs)
  | _=>exact congrArg some hr
 ·rw [List.getElem?_eq_none (by rw [h.top.1]; omega),List.getElem?_eq_none (by rw [fcells_length]; omega)]
def AtV (b:Value) (i:Nat) (v:Value):Prop:=∃ g o n cap,b= .slice (some ⟨g,o,none⟩) n cap/\v= .pointer (some ⟨g,o+i,none⟩)
def RelC (m:Lk) (γ:Gh):Cv->Value->Prop
 | .un,v=>v.oneCell'=true
 | .b x,v=>v= .bool x
 | .i k n,v=>v= .int k n
 | .s x,v=>v= .string x
 | .nl _,v=>v= .slice none 0 0
 | .sw r,v=>(∃ row,m.r r=some row)/\v=γ.rv r
 | .sl r off len,v=>∃ row,m.r r=some row/\off+len<=row.xs.length/\SubV (sz row.τ) (γ.rv r) off len v
 | .nw r e c,v=>∃ row τ ys,m.r r=some row/\e<row.xs.length/\(row.cs e)[c]? =some (.l τ ys)/\(γ.cv r)[e*sz row.τ+c]? =some v
 | .ns r e c off len,v=>∃ row τ ys u,m.r r=some row/\e<row.xs.length/\(row.cs e)[c]? =some (.l τ ys)/\(γ.cv r)[e*sz row.τ+c]? =some u/\off+len<=ys.length/\SubV (sz τ) u off len v
 | .pv k c,v=>(∃ cs,m.v k=some cs)/\v= .pointer (some ⟨γ.vb k,c,none⟩)
 | .pe r e c,v=>∃ row,m.r r=some row/\e<row.xs.length/\AtV (γ.rv r) (e*sz row.τ+c) v
 | .pn r e c k d,v=>∃ row τ ys u,m.r r=some row/\e<row.xs.length/\(row.cs e)[c]? =some (.l τ ys)/\(γ.cv r)[e*sz row.τ+c]? =some u/\k<ys.length/\AtV u (k*sz τ+d) v
 | .fn f caps,v=>(∀ k∈caps,∃ cs,m.v k=some cs)/\v= .func (.func f) #[] (caps.map fun k=>Value.pointer (some ⟨γ.vb k,0,none⟩)).toArray
inductive RelL (m:Lk) (γ:Gh):List Cv->List Value->Prop
 | nil:RelL m γ [] []
 | cons {x:Cv} {v:Value} {l:List Cv} {u:List Value}:RelC m γ x v->RelL m γ l u->RelL m γ (x::l) (v::u)
def RelP (m:Lk) (γ:Gh) (p:Bool×List Cv) (v:Value):Prop:=∃ us,RelL m γ p.2 us/\(p.1=true->v= .agg us.toArray)/\(p.1=false->us=[v])
inductive RelTs (m:Lk) (γ:Gh):List (Bool×List Cv)->List Value->Prop
 | nil:RelTs m γ [] []
 | cons {p:Bool×List Cv} {v:Value} {l:List (Bool×List Cv)} {u:List Value}:RelP m γ p v->RelTs m γ l u->RelTs m γ (p::l) (v::u)
def RelA (m:Lk) (γ:Gh):AV->Value->Prop
 | .c .un,_=>True
 | .c x,v=>RelC m γ x v
 | .a l,v=>∃ us,v= .agg us.toArray/\RelL m γ l us
 | .t l,v=>∃ us,v= .tuple us.toArray/\RelTs m γ l us
 | .g _ q u,v=>(q=true->RelA m γ u v)/\(q=false->v=undef)
theorem RelA.of {m:Lk} {γ:Gh} {x:Cv} {v:Value} (h:RelC m γ x v):RelA m γ (.c x) v:=by
 cases x<;>first | trivial | exact h
theorem RelA.to {m:Lk} {γ:Gh} {x:Cv} {v:Value} (h:RelA m γ (.c x) v) (hx:x≠ .un):RelC m γ x v:=by
 cases x<;>first | exact absurd rfl hx | exact h
structure Rel (X:Ctx) (m:Lk) (γ:Gh) (w:World):Prop where
 vs:∀ k cs,m.v k=some cs->γ.O (γ.vb k)=some (.v k)/\∃ cur e,w.heap[γ.vb k]? =some (.cells cur e (0,0))/\RelL m γ cs cur.toList
 rs:∀ k row,m.r k=some row->RowR X γ.O w k row (γ.rv k) (γ.cv k)
def RelT (X:Ctx) (S:St) (γ:Gh) (a:Act):Prop:=X.nt<=a.tmps.size/\∀ t av,lk S.tm t=some av->RelA S.lk γ av (a.tmps.getD t undef)
structure Fr (O0:OM) (w0:World) (O:OM) (w:World):Prop where
 os:w.os=w0.os
 tape:w.tape=w0.tape
 output:w.output=w0.output
 size:w0.heap.size<=w.heap.size
 blk:∀ g,g<w0.heap.size->(O0 g=none\/O0 g=some .fz\/O0 g=some .x)->O g=O0 g/\w.heap[g]? =w0.heap[g]?
 top:∀ g,w.heap.size<=g->O g=none
structure KeepR (m:Lk) (γ:Gh) (m':Lk) (γ':Gh) (r:Nat):Prop where
 row:∀ row,m.r r=some row->∃ row',m'.r r=some row'/\row'.τ=row.τ/\row.xs.length<=row'.xs.length
 rv:γ'.rv r=γ.rv r
structure KeepN (m:Lk) (γ:Gh) (m':Lk) (γ':Gh) (r:Nat):Prop where
 cell:∀ row row',m.r r=some row->m'.r r=some row'->∀ e c τ ys,e<row.xs.length->(row.cs e)[c]? =some (.l τ ys) ->
  (∃ ys':List (El τ),(row'.cs e)[c]? =some (.l τ ys')/\ys.length<=ys'.length)/\(γ'.cv r)[e*sz row.τ+c]? =(γ.cv r)[e*sz row.τ+c]?
structure KeepV (m:Lk) (γ:Gh) (m':Lk) (γ':Gh) (k:Nat):Prop where
 cs:∀ cs,m.v k=some cs->∃ cs',m'.v k=some cs'
 vb:γ'.vb k=γ.vb k
theorem RelC.re {m m':Lk} {γ γ':Gh} {x:Cv} {v:Value} (h:RelC m γ x v) (hr:∀ r,x.row=some r->KeepR m γ m' γ' r) (hn:∀ r,x.row=some r->x.inner=true->KeepN m γ m' γ' r)
  (hv:∀ k∈x.vk,KeepV m γ m' γ' k):RelC m' γ' x v:=by
 cases x with
 | un=>exact h
 | b x=>exact h
 | i k n=>exact h
 | s x=>exact h
 | nl τ=>exact h
 | sw r =>
  obtain ⟨⟨row,hrow⟩,h2⟩:=h
  obtain ⟨row',h3,_⟩:=(hr r rfl).row row hrow
  exact ⟨⟨row',h3⟩,h2.trans (hr r rfl).rv.symm⟩
 | sl r off len =>
  obtain ⟨row,hrow,hle,hs⟩:=h
  obtain ⟨row',h3,h4,h5⟩:=(hr r rfl).row row hrow
  exact ⟨row',h3,by omega,by rw [h4,(hr r rfl).rv]; exact hs⟩
 | nw r e c =>
  obtain ⟨row,τ,ys,hrow,he,hc,hu⟩:=h
  obtain ⟨row',h3,h4,h5⟩:=(hr r rfl).row row hrow
  obtain ⟨⟨ys',h6,h7⟩,h8⟩:=(hn r rfl rfl).cell row row' hrow h3 e c τ ys he hc
  exact ⟨row',τ,ys',h3,by omega,h6,by rw [h4,h8]; exact hu⟩
 | ns r e c off len =>
  obtain ⟨row,τ,ys,u,hrow,he,hc,hu,hle,hs⟩:=h
  obtain ⟨row',h3,h4,h5⟩:=(hr r rfl).row row hrow
  obtain ⟨⟨ys',h6,h7⟩,h8⟩:=(hn r rfl rfl).cell row row' hrow h3 e c τ ys he hc
  exact ⟨row',τ,ys',u,h3,by omega,h6,by rw [h4,h8]; exact hu,by omega,hs⟩
 | pv k c =>
  obtain ⟨⟨cs,hcs⟩,h2⟩:=h
  exact ⟨(hv k (by simp [Cv.vk])).cs cs hcs,by rw [(hv k (by simp [Cv.vk])).vb]; exact h2⟩
 | pe r e c =>
  obtain ⟨row,hrow,he,ha⟩:=h
  obtain ⟨row',h3,h4,h5⟩:=(hr r rfl).row row hrow
  exact ⟨row',h3,by omega,by rw [h4,(hr r rfl).rv]; exact ha⟩
 | pn r e c k d =>
  obtain ⟨row,τ,ys,u,hrow,he,hc,hu,hk,ha⟩:=h
  obtain ⟨row',h3,h4,h5⟩:=(hr r rfl).row row hrow
  obtain ⟨⟨ys',h6,h7⟩,h8⟩:=(hn r rfl rfl).cell row row' hrow h3 e c τ ys he hc
  exact ⟨row',τ,ys',u,h3,by omega,h6,by rw [h4,h8]; exact hu,by omega,ha⟩
 | fn f caps =>
  obtain ⟨h1,h2⟩:=h
  refine ⟨fun k hk=>let ⟨cs,hcs⟩:=h1 k hk; (hv k hk).cs cs hcs,?_⟩
  rw [h2]; congr 2
  exact List.map_congr_left fun k hk=>by rw [(hv k hk).vb]
structure Le (m M:Lk):Prop where
 r:∀ k row,m.r k=some row->M.r k=some row
 v:∀ k cs,m.v k=some cs->M.v k=some cs
theorem Le.refl (m:Lk):Le m m:=⟨fun _ _ h=>h,fun _ _ h=>h⟩
theorem row_cs (row:Row) (e:Nat):row.cs e=cells row.τ (row.xs.getD e (dflt row.τ)):=rfl
theorem Vis.cell {A:Nat->Prop} {w:World} {row:Row} {v:Value} {cs:List Value} (h:Vis A w row.τ row.xs v cs) {e c:Nat} {τ:Ty} {ys:List (El τ)} {u:Value}
  (he:e<row.xs.length) (hc:(row.cs e)[c]? =some (.l τ ys)) (hu:cs[e*sz row.τ+c]? =some u):τ.deep=false/\Vis A w τ ys u (fcells τ ys):=by
 obtain ⟨u',hu',hd,hs⟩:=h.cel e c _ he hc
 rw [hu] at hu'; cases hu'
 exact ⟨hd,.of_flat hd hs⟩
def RefA (γ:Gh) (x:Cv) (g:Nat):Prop:=match x.row with | some r=>Fam r (γ.O g) | none=>False
theorem vw_visG {m M:Lk} {γ:Gh} {w:World} (hm:Le m M) {x:Cv} {v:Value} (hx:RelC M γ x v) {τ:Ty} {xs:List (El τ)} {A:Nat->Prop}
  (fam:∀ r row,m.r r=some row->x.row=some r->Vis A w row.τ row.xs (γ.rv r) (γ.cv r))
  (h:(m.vw x).ct=some (.l τ xs)):(∃ cs,Vis A w τ xs v cs)/\(m.vw x).len=some xs.length:=by
 cases x with
 | nl σ =>
  simp only [Lk.vw,Vw.ct,Option.some.injEq,Ct.l.injEq] at h
  obtain ⟨rfl,h⟩:=h; cases h
  refine ⟨⟨[],⟨by simp,.inl ⟨hx,rfl⟩⟩,fun e c ct he=>by simp at he⟩,rfl⟩
 | sw r =>
  simp only [Lk.vw] at h ⊢
  cases hr:m.r r with
  | none=>simp [hr,Vw.ct] at h
  | some row =>
   simp only [hr,Vw.ct,Option.some.injEq,Ct.l.injEq] at h
   obtain ⟨rfl,h⟩:=h; cases h
   obtain ⟨_,hx⟩:=hx
   exact ⟨⟨_,by rw [hx]; exact fam r row hr rfl⟩,by simp [Vw.len]⟩
 | sl r off len =>
  simp only [Lk.vw] at h ⊢
  cases hr:m.r r with
  | none=>simp [hr,Vw.ct] at h
  | some row =>
   simp only [hr,Vw.ct,Option.some.injEq,Ct.l.injEq] at h
   obtain ⟨rfl,h⟩:=h; cases h
   obtain ⟨row',hr',hle,hs⟩:=hx
   rw [hm.r r row hr] at hr'; cases hr'
   exact ⟨⟨_,(fam r row hr rfl).sub hle hs⟩,by simp [Vw.len,sub_length _ hle]⟩
 | nw r e c =>
  simp only [Lk.vw,nth_eq] at h ⊢
  cases hr:m.r r with
  | none=>simp [hr,Vw.ct] at h
  | some row =>
   obtain ⟨row',τ',ys,hr',he,hc,hu⟩:=hx
   rw [hm.r r row hr] at hr'; cases hr'
   simp only [hr,hc,Vw.ct,Option.some.injEq,Ct.l.injEq] at h
   obtain ⟨rfl,h⟩:=h; cases h
   exact ⟨⟨_,((fam r row hr rfl).cell he hc hu).2⟩,by simp [hc,Vw.len]⟩
 | ns r e c off len =>
  simp only [Lk.vw,nth_eq] at h ⊢
  cases hr:m.r r with
  | none=>simp [hr,Vw.ct] at h
  | some row =>
   obtain ⟨row',τ',ys,u,hr',he,hc,hu,hle,hs⟩:=hx
   rw [hm.r r row hr] at hr'; cases hr'
   simp only [hr,hc,Vw.ct,Option.some.injEq,Ct.l.injEq] at h
   obtain ⟨rfl,h⟩:=h; cases h
   exact ⟨⟨_,((fam r row hr rfl).cell he hc hu).2.sub hle hs⟩,by simp [hc,Vw.len,sub_length _ hle]⟩
 | _=>simp [Lk.vw,Vw.ct] at h
def InR (r ow:Nat) (o:Option Ow):Prop:=In (topC r ow) o\/∃ e c,In (nesC r e c ow) o
theorem RowR.visI {X:Ctx} {O:OM} {w:World} {k:Nat} {row:Row} {v:Value} {cs:List Value} (h:RowR X O w k row v cs) {A:Nat->Prop} (ha:∀ g,InR k row.ow (O g)->A g):Vis A w row.τ row.xs v cs :=
 ⟨h.top.slF.mono fun g o hg hi=>⟨hg,ha g (.inl hi)⟩,fun e c ct he hc=>let ⟨u,hu,hr⟩:=h.cel e c ct he hc; ⟨u,hu,hr.vis fun g hi=>ha g (.inr ⟨e,c,hi⟩)⟩⟩
theorem vw_vis {X:Ctx} {m M:Lk} {γ:Gh} {w:World} (hm:Le m M) (hR:Rel X M γ w) {x:Cv} {v:Value} (hx:RelC M γ x v) {τ:Ty} {xs:List (El τ)}
  (h:(m.vw x).ct=some (.l τ xs)):(∃ cs,Vis (RefA γ x) w τ xs v cs)/\(m.vw x).len=some xs.length :=
 vw_visG hm hx (fun r row hr hx=>(hR.rs r row (hm.r r row hr)).vis fun g hg=>by simpa [RefA,hx] using hg) h
theorem vw_visI {X:Ctx} {m M:Lk} {γ:Gh} {w:World} (hm:Le m M) (hR:Rel X M γ w) {x:Cv} {v:Value} (hx:RelC M γ x v) {τ:Ty} {xs:List (El τ)} {A:Nat->Prop}
  (hA:∀ r row g,m.r r=some row->x.row=some r->InR r row.ow (γ.O g)->A g) (h:(m.vw x).ct=some (.l τ xs)):∃ cs,Vis A w τ xs v cs :=
 (vw_visG hm hx (fun r row hr hx=>(hR.rs r row (hm.r r row hr)).visI fun g hg=>hA r row g hr hx hg) h).1
def StructEq (P:Program) (t:TypeId) (ks:List Ct):Prop:=∀ (l m:List Cv) (us vs:List Value) (c:Bool) (γ:Gh) (M:Lk) (w:World),sameKs ks l=true->sameKs ks m=true->RelL M γ l us->RelL M γ m vs->cvsEq l m=some c ->
 (do eqGuard .eql t (.tmp 0) (.tmp 0) (.agg us.toArray) (.agg vs.toArray); Op.equal t (.agg us.toArray) (.agg vs.toArray):Sem Bool).run P w= .ok c w
structure CtxOk (X:Ctx):Prop where
 ty:∀ e τ,lk X.ty e=some τ->∃ i,X.P.info? e=some i/\i.size=sz τ
 id:∀ e τ,lk X.ty e=some τ->X.id τ=e->∃ i z,X.P.info? e=some i/\i.zero=some z/\z.cells.toList=(cells τ (dflt τ)).map ctVal/\i.bytes<=128
 byte:∀ e,lk X.ty e=some .byte->X.P.underlying e=some (.int .u8)
 eqs:∀ t ks,lk X.eqs t=some ks->StructEq X.P t ks
 mixed:X.P.follows .mixedOrders=true
variable {X:Ctx} {m M:Lk} {γ:Gh} {w:World} {ρ:Operand->Value}
theorem run_info {P:Program} {t:TypeId} {i:TypeInfo} (h:P.info? t=some i) (w:World):(typeInfo t).run P w= .ok i w:=by
 simp [typeInfo,h]
theorem run_size {P:Program} {t:TypeId} {i:TypeInfo} (h:P.info? t=some i) (w:World):(sizeOf t).run P w= .ok i.size w:=by
 simp [sizeOf,typeInfo,h]
theorem szOf_pos {P:Program} {t:TypeId} {n:Nat} (h:szOf P t=n) (hn:0<n):∃ i,P.info? t=some i/\i.size=n:=by
 unfold szOf at h
 cases hi:P.info? t with
 | none=>simp [hi] at h; omega
 | some i=>exact ⟨i,rfl,by simpa [hi] using h⟩
theorem kEq_eq {a b:IntKind} (h:kEq a b=true):a=b:=by cases a<;>cases b<;>first | rfl | simp [kEq] at h
theorem tEq_eq {a b:Ty} (h:tEq a b=true):a=b:=by cases a<;>cases b<;>first | rfl | simp [tEq] at h
theorem tEq_self (a:Ty):tEq a a=true:=by cases a<;>rfl
theorem bytesLess_total:∀ x y:List UInt8,(Op.bytesLess x y||x==y)= !Op.bytesLess y x
 | [],[]=>rfl
 | [],b::y=>rfl
 | a::x,[]=>rfl
 | a::x,b::y=>by
  have ih:=bytesLess_total x y
  simp only [Op.bytesLess]
  by_cases h1:a<b
  ·have h2:¬ b<a:=UInt8.lt_asymm h1
   have h3:a≠b:=fun e=>UInt8.lt_irrefl _ (e▸h1)
   simp [h1,h2,h3,Ne.symm h3]
  ·by_cases h2:b<a
   ·have h3:a≠b:=fun e=>UInt8.lt_irrefl _ (e▸h2)
    simp [h1,h2,h3,Ne.symm h3]
   ·have h3:a=b:=UInt8.le_antisymm (UInt8.not_lt.1 h2) (UInt8.not_lt.1 h1)
    subst h3
    simp only [UInt8.lt_irrefl,decide_false,Bool.false_or,beq_self_eq_true,Bool.true_and]
    rw [← ih]
    simp
def Good (o:Out) (v:AV):Prop:=o= .r0 v\/o= .r true v
theorem int_ok {op:BinOp} {k:IntKind} {a b:Int} {t:TypeId} {x y:Operand} {v:AV} (h:Good (binO op (.c (.i k a)) (.c (.i k b))) v) :
  ∃ u,(do eqGuard op t x y (.int k a) (.int k b); Go.binOp op t (.int k a) (.int k b):Sem Value).run X.P w= .ok u w/\RelA M γ v u:=by
 have hk:kEq k k=true:=by cases k<;>rfl
 cases op<;>simp only [Good,binO,cmpI,hk,Out.r0.injEq,Out.r.injEq,reduceCtorEq,or_false,false_or,decide_eq_true_eq,Bool.not_eq_true',beq_eq_false_iff_ne] at h
 case quo=>obtain ⟨h0,rfl⟩:=h; exact ⟨_,by simp [eqGuard,Go.binOp,Op.intDiv,h0],rfl⟩
 case rem=>obtain ⟨h0,rfl⟩:=h; exact ⟨_,by simp [eqGuard,Go.binOp,Op.intDiv,h0],rfl⟩
 case shl=>obtain ⟨h0,rfl⟩:=h; exact ⟨_,by simp [eqGuard,Go.binOp,Op.shift,Int.not_lt.2 h0],rfl⟩
 case shr=>obtain ⟨h0,rfl⟩:=h; exact ⟨_,by simp [eqGuard,Go.binOp,Op.shift,Int.not_lt.2 h0],rfl⟩
 all_goals (subst h; exact ⟨_,by simp [eqGuard,Go.binOp,Op.intArith,Op.intBits,Op.intCmp,bne],rfl⟩)
theorem shift_ok {op:BinOp} {k k':IntKind} {a b:Int} {t:TypeId} {x y:Operand} {v:AV} (hk:kEq k k'=false) (h:Good (binO op (.c (.i k a)) (.c (.i k' b))) v) :
  ∃ u,(do eqGuard op t x y (.int k a) (.int k' b); Go.binOp op t (.int k a) (.int k' b):Sem Value).run X.P w= .ok u w/\RelA M γ v u:=by
 cases op<;>simp only [Good,binO,cmpI,hk,Out.r0.injEq,Out.r.injEq,reduceCtorEq,or_false,false_or,decide_eq_true_eq,Bool.not_eq_true',beq_eq_false_iff_ne] at h
 case shl=>obtain ⟨h0,rfl⟩:=h; exact ⟨_,by simp [eqGuard,Go.binOp,Op.shift,Int.not_lt.2 h0],rfl⟩
 case shr=>obtain ⟨h0,rfl⟩:=h; exact ⟨_,by simp [eqGuard,Go.binOp,Op.shift,Int.not_lt.2 h0],rfl⟩
theorem str_ok {op:BinOp} {a b:ByteArray} {t:TypeId} {x y:Operand} {v:AV} (h:Good (binO op (.c (.s a)) (.c (.s b))) v) :
  ∃ u,(do eqGuard op t x y (.string a) (.string b); Go.binOp op t (.string a) (.string b):Sem Value).run X.P w= .ok u w/\RelA M γ v u:=by
 have e1:(a.toList==b.toList)=(a==b):=(beq_toListBytes a b).symm
 have e2:=bytesLess_total a.toList b.toList
 cases op<;>simp only [Good,binO,cmpS,sLt,Out.r0.injEq,Out.r.injEq,reduceCtorEq,or_false,false_or,decide_eq_true_eq] at h
 case add =>
  obtain ⟨h0,rfl⟩:=h
  have:¬ ((a.size+b.size:Nat):Int)>IntKind.i64.max:=by
   show ¬ ((a.size+b.size:Nat):Int)>9223372036854775807
   omega
  exact ⟨_,by simp only [eqGuard,Go.binOp,Op.stringOp,if_neg this]; rfl,rfl⟩
 case gtr=>subst h; exact ⟨_,by simp only [eqGuard,Go.binOp,Op.stringOp,e2]; rfl,by simp [RelA,RelC]⟩
 case leq=>subst h; exact ⟨_,by simp only [eqGuard,Go.binOp,Op.stringOp,e2]; rfl,by simp [RelA,RelC]⟩
 all_goals (subst h; exact ⟨_,by simp only [eqGuard,Go.binOp,Op.stringOp,e1]; rfl,rfl⟩)
theorem run_equal_bool {t:TypeId} (ht:X.P.underlying t=some .bool) (a b:Bool):(Op.equal t (.bool a) (.bool b)).run X.P w= .ok (a==b) w:=by
 show (Op.equalIn (9999+1) t (.bool a) (.bool b)).run X.P w=_
 rw [Op.equalIn,Sem.run_bind,run_underlying ht]
 rfl
theorem bool_ok {op:BinOp} {a:Bool} {b:AV} {bv:Value} {t:TypeId} {x y:Operand} {v:AV} (ht:X.P.underlying t=some .bool) (hb:RelA M γ b bv) (h:Good (binO op (.c (.b a)) b) v) :
  ∃ u,(do eqGuard op t x y (.bool a) bv; Go.binOp op t (.bool a) bv:Sem Value).run X.P w= .ok u w/\RelA M γ v u:=by
 cases b with
 | c y =>
  cases y with
  | b b =>
   have hb:bv= .bool b:=hb
   subst hb
   cases op<;>simp only [Good,binO,Out.r0.injEq,Out.r.injEq,reduceCtorEq,or_false,false_or] at h
   all_goals (subst h; exact ⟨_,by simp only [eqGuard,Go.binOp,Sem.run_bind,Bool.not_true,Bool.false_eq_true,if_false,Sem.run_pure,Result.andThen_ok,run_equal_bool ht],rfl⟩)
  | _=>simp [Good,binO] at h
 | _=>simp [Good,binO] at h
theorem agg_ok (hX:CtxOk X) {op:BinOp} {a:List Cv} {b:AV} {av bv:Value} {t:TypeId} {x y:Operand} {v:AV} {ks:List Ct} (ht:lk X.eqs t=some ks) (hk1:sameKs ks a=true) (hk2:∀ m,b= .a m->sameKs ks m=true) (ha:RelA M γ (.a a) av) (hb:RelA M γ b bv)
  (h:Good (binO op (.a a) b) v):∃ u,(do eqGuard op t x y av bv; Go.binOp op t av bv:Sem Value).run X.P w= .ok u w/\RelA M γ v u:=by
 cases b with
 | a m =>
  obtain ⟨us,rfl,hu⟩:=ha
  obtain ⟨vs,rfl,hv⟩:=hb
  have key:∀ c,cvsEq a m=some c->(eqGuard .eql t (.tmp 0) (.tmp 0) (.agg us.toArray) (.agg vs.toArray) >>= fun _=>Op.equal t (.agg us.toArray) (.agg vs.toArray)).run X.P w= .ok c w :=
   fun c hc=>hX.eqs t ks ht a m us vs c γ M w hk1 (hk2 m rfl) hu hv hc
  have g1:∀ op x y,(op= .eql\/op= .neq)->eqGuard op t x y (.agg us.toArray) (.agg vs.toArray)=eqGuard .eql t (.tmp 0) (.tmp 0) (.agg us.toArray) (.agg vs.toArray):=by
   intro op x y ho; rcases ho with rfl | rfl<;>simp [eqGuard]
  cases hc:cvsEq a m with
  | none=>cases op<;>simp [Good,binO,hc] at h
  | some c =>
   have key:=key c hc
   simp only [Sem.run_bind] at key
   cases op<;>simp only [Good,binO,hc,Out.r0.injEq,Out.r.injEq,reduceCtorEq,or_false,false_or] at h
   case eql =>
    subst h
    refine ⟨_,?_,rfl⟩
    rw [g1 _ x y (.inl rfl)]
    simp only [Go.binOp,Sem.run_bind]
    cases hg:(eqGuard .eql t (.tmp 0) (.tmp 0) (.agg us.toArray) (.agg vs.toArray)).run X.P w with
    | halt hh w'=>rw [hg] at key; simp at key
    | ok z w' =>
     rw [hg] at key
     simp only [Result.andThen_ok] at key ⊢
     rw [key]; rfl
   case neq =>
    subst h
    refine ⟨_,?_,rfl⟩
    rw [g1 _ x y (.inr rfl)]
    simp only [Go.binOp,Sem.run_bind]
    cases hg:(eqGuard .eql t (.tmp 0) (.tmp 0) (.agg us.toArray) (.agg vs.toArray)).run X.P w with
    | halt hh w'=>rw [hg] at key; simp at key
    | ok z w' =>
     rw [hg] at key
     simp only [Result.andThen_ok] at key ⊢
     rw [key]; rfl
 | _=>simp [Good,binO] at h
theorem Addr_add (g o n:Nat):(⟨g,o,none⟩:Addr).add n=⟨g,o+n,none⟩:=by
 unfold Addr.add; split<;>simp_all
def SlcV (v:Value) (n:Nat):Prop:=(v= .slice none 0 0/\n=0)\/∃ g o cap,v= .slice (some ⟨g,o,none⟩) n cap/\n<=cap
theorem SlF.slcV {A:Nat->Prop} {z:Nat} {v:Value} {n:Nat} {cs:List Value} (h:SlF A w z v n cs):SlcV v n:=by
 rcases h.2 with h | ⟨g,o,cap,cur,e,fz,hv,_,_,hn,_⟩
 ·exact .inl h
 ·exact .inr ⟨g,o,cap,hv,hn⟩
theorem SlcV.sub {z:Nat} {b v:Value} {off len n:Nat} (hs:SubV z b off len v):SlcV v len:=by
 rcases hs with ⟨_,hv,h0⟩ | ⟨g,o,n',cap,o',cap',_,hv,hl,_⟩
 ·exact .inl ⟨hv,h0⟩
 ·exact .inr ⟨g,o',cap',hv,hl.1⟩
theorem SlcV.self {z:Nat} {b:Value} {n:Nat} (h:SlcV b n):SubV z b 0 n b:=by
 rcases h with ⟨rfl,rfl⟩ | ⟨g,o,cap,rfl,hn⟩
 ·exact .inl ⟨rfl,rfl,rfl⟩
 ·exact .inr ⟨g,o,n,cap,o,cap,rfl,rfl,⟨hn,by simp⟩,Nat.le_refl _,by simp,.inr (by simp)⟩
theorem vw_slcV (hm:Le m M) (hR:Rel X M γ w) {x:Cv} {v:Value} (hx:RelC M γ x v) {n:Nat} (h:(m.vw x).len=some n):SlcV v n:=by
 cases x with
 | nl σ=>simp only [Lk.vw,Vw.len,Option.some.injEq] at h; subst h; exact .inl ⟨hx,rfl⟩
 | sw r =>
  simp only [Lk.vw] at h
  cases hr:m.r r with
  | none=>simp [hr,Vw.len] at h
  | some row =>
   simp only [hr,Vw.len,Option.some.injEq] at h; subst h
   obtain ⟨_,rfl⟩:=hx
   exact (hR.rs r row (hm.r r row hr)).top.slF.slcV
 | sl r off len =>
  simp only [Lk.vw] at h
  cases hr:m.r r with
  | none=>simp [hr,Vw.len] at h
  | some row =>
   simp only [hr,Vw.len,Option.some.injEq] at h; subst h
   obtain ⟨_,_,_,hs⟩:=hx
   exact SlcV.sub (n:=0) hs
 | nw r e c =>
  simp only [Lk.vw,nth_eq] at h
  cases hr:m.r r with
  | none=>simp [hr,Vw.len] at h
  | some row =>
   obtain ⟨row',τ',ys,hr',he,hc,hu⟩:=hx
   have hr2:=hm.r r row hr
   rw [hr2] at hr'; cases hr'
   simp only [hr,hc,Vw.len,Option.some.injEq] at h; subst h
   obtain ⟨u',hu',hcell⟩:=(hR.rs r row hr2).cel e c _ he hc
   rw [hu] at hu'; cases hu'
   exact hcell.2.slF.slcV
 | ns r e c off len =>
  simp only [Lk.vw,nth_eq] at h
  cases hr:m.r r with
  | none=>simp [hr,Vw.len] at h
  | some row =>
   obtain ⟨row',τ',ys,u,hr',he,hc,hu,hle,hs⟩:=hx
   have hr2:=hm.r r row hr
   rw [hr2] at hr'; cases hr'
   simp only [hr,hc,Vw.len,Option.some.injEq] at h; subst h
   exact SlcV.sub (n:=0) hs
 | _=>simp [Lk.vw,Vw.len] at h
theorem sliced_sub {z:Nat} {b v:Value} {off len l k:Nat} (hs:SubV z b off len v) (hl:l+k<=len) :
  ∃ a cap,v= .slice a len cap/\len<=cap/\SubV z b (off+l) k (sliced a l (l+k) cap z):=by
 rcases hs with ⟨hb,hv,h0⟩ | ⟨g,o,n',cap,o',cap',hb,hv,hlc,ho1,ho2,ho3⟩
 ·subst hv; subst h0
  obtain ⟨rfl,rfl⟩:l=0/\k=0:=by omega
  exact ⟨none,0,rfl,Nat.le_refl _,.inl ⟨hb,by simp [sliced],rfl⟩⟩
 ·refine ⟨_,_,hv,hlc.1,?_⟩
  have hlc1:=hlc.1
  have hlc2:=hlc.2
  simp only [sliced]
  by_cases hc:cap'=l
  ·have hk:k=0:=by omega
   subst hk
   rw [if_pos hc]
   refine .inr ⟨g,o,n',cap,o',cap'-l,hb,by simp,⟨by omega,by omega⟩,ho1,?_,.inl rfl⟩
   have:=Nat.mul_le_mul_right z (show off<=off+l by omega)
   omega
  ·rw [if_neg hc]
   refine .inr ⟨g,o,n',cap,o'+l*z,cap'-l,hb,by simp [Addr_add],⟨by omega,by omega⟩,by omega,?_,?_⟩
   ·rw [Nat.add_mul]; omega
   ·rcases ho3 with h0 | h0
    ·left; omega
    ·right; rw [Nat.add_mul]; omega
def cutMk (x:Cv) (l k:Nat):AV:=match x with
 | .sw r=> .c (.sl r l k) | .sl r off _=> .c (.sl r (off+l) k) | .nw r e c=> .c (.ns r e c l k) | .ns r e c off _=> .c (.ns r e c (off+l) k) | .nl τ=> .c (.nl τ) | _=> .c .un
theorem cut_rel (hm:Le m M) (hR:Rel X M γ w) {x:Cv} {v:Value} (hx:RelC M γ x v) {n:Nat} (h:(m.vw x).len=some n) {τ:Ty} (ht:(m.vw x).ty=some τ) {l k:Nat} (hl:l+k<=n) :
  ∃ a cap,v= .slice a n cap/\n<=cap/\RelA M γ (cutMk x l k) (sliced a l (l+k) cap (sz τ)):=by
 have hs:=vw_slcV hm hR hx h
 cases x with
 | nl σ =>
  simp only [Lk.vw,Vw.len,Option.some.injEq,List.length_nil] at h; subst h
  obtain ⟨rfl,rfl⟩:l=0/\k=0:=by omega
  have hx:v= .slice none 0 0:=hx
  exact ⟨none,0,hx,Nat.le_refl _,by simp [cutMk,RelA,RelC,sliced]⟩
 | sw r =>
  simp only [Lk.vw] at h ht
  cases hr:m.r r with
  | none=>simp [hr,Vw.len] at h
  | some row =>
   simp only [hr,Vw.len,Vw.ty,Option.some.injEq] at h ht; subst h; subst ht
   obtain ⟨_,rfl⟩:=hx
   obtain ⟨a,cap,h1,h2,h3⟩:=sliced_sub (z:=sz row.τ) hs.self hl
   exact ⟨a,cap,h1,h2,row,hm.r r row hr,hl,by simpa using h3⟩
 | sl r off len =>
  simp only [Lk.vw] at h ht
  cases hr:m.r r with
  | none=>simp [hr,Vw.len] at h
  | some row =>
   simp only [hr,Vw.len,Vw.ty,Option.some.injEq] at h ht; subst h; subst ht
   obtain ⟨row',hr',hle,hsub⟩:=hx
   rw [hm.r r row hr] at hr'; cases hr'
   obtain ⟨a,cap,h1,h2,h3⟩:=sliced_sub hsub hl
   exact ⟨a,cap,h1,h2,row,hm.r r row hr,by omega,h3⟩
 | nw r e c =>
  simp only [Lk.vw,nth_eq] at h ht
  cases hr:m.r r with
  | none=>simp [hr,Vw.len] at h
  | some row =>
   obtain ⟨row',τ',ys,hr',he,hc,hu⟩:=hx
   rw [hm.r r row hr] at hr'; cases hr'
   simp only [hr,hc,Vw.len,Vw.ty,Option.some.injEq] at h ht; subst h; subst ht
   obtain ⟨a,cap,h1,h2,h3⟩:=sliced_sub (z:=sz τ') hs.self hl
   exact ⟨a,cap,h1,h2,row,τ',ys,v,hm.r r row hr,he,hc,hu,hl,by simpa using h3⟩
 | ns r e c off len =>
  simp only [Lk.vw,nth_eq] at h ht
  cases hr:m.r r with
  | none=>simp [hr,Vw.len] at h
  | some row =>
   obtain ⟨row',τ',ys,u,hr',he,hc,hu,hle,hsub⟩:=hx
   rw [hm.r r row hr] at hr'; cases hr'
   simp only [hr,hc,Vw.len,Vw.ty,Option.some.injEq] at h ht; subst h; subst ht
   obtain ⟨a,cap,h1,h2,h3⟩:=sliced_sub hsub hl
   exact ⟨a,cap,h1,h2,row,τ',ys,u,hm.r r row hr,he,hc,hu,by omega,h3⟩
 | _=>simp [Lk.vw,Vw.len] at h
theorem elSz_pos {P:Program} {t:TypeId} {n:Nat} (h:elSz P t=n) (hn:0<n):∃ e i,P.underlying t=some (.slice e)/\P.info? e=some i/\i.size=n:=by
 simp only [elSz,elId] at h
 revert h; split<;>intro h
 ·rename_i e he
  obtain ⟨i,hi,hs⟩:=szOf_pos h hn
  revert he; split<;>intro he
  ·cases he; exact ⟨_,i,by assumption,hi,hs⟩
  ·cases he
 ·omega
theorem elem_of_slice {P:Program} {t e:TypeId} (h:P.underlying t=some (.slice e)):P.elem t=e:=by simp [Program.elem,h]
theorem nat_beq {a b:Nat} (h:Nat.beq a b=true):a=b:=Nat.eq_of_beq_eq_true h
theorem run_slice_string_lh {P:Program} (w:World) (t:TypeId) (s:ByteArray) (ht:P.underlying t=some .string) (kl kh:IntKind) (l h:Int) (h0:0<=l) (h1:l<=h) (h2:h<=s.size) :
  (Instr.slice t (.string s) (some (.int kl l)) (some (.int kh h)) none).run P w= .ok (.string (s.extract l.toNat h.toNat)) w:=by
 have eh:(h.toNat:Int)=h:=Int.toNat_of_nonneg (by omega)
 simp [Instr.slice,run_underlying ht,Instr.sliceBounds,run_sliceBound,h0,h1,h2,eh,(by omega:0<=h)]
theorem sliceA_cut (m:Lk) (x:Cv) (hx:∀ a,x≠ .s a) (lo hi:Option Int):m.sliceA (.c x) lo hi=match (m.vw x).len with
  | none=> .no
  | some n=>match lo,hi with
   | none,none=> .r0 (.c x)
   | some l,none=> .r (decide (0<=l)&&decide (l<=(n:Int))) (cutMk x l.toNat (n-l.toNat))
   | none,some h=> .r (decide (0<=h)&&decide (h<=(n:Int))) (cutMk x 0 h.toNat)
   | some l,some h=> .r (decide (0<=l)&&(decide (l<=h)&&decide (h<=(n:Int)))) (cutMk x l.toNat (h.toNat-l.toNat)):=by
 cases x<;>first | (exact absurd rfl (hx _)) | rfl
theorem slice_ok (hm:Le m M) (hR:Rel X M γ w) {t:TypeId} {x:AV} {xv:Value} (hx:RelA M γ x xv) {lo hi:Option Int} {kl kh:IntKind} {v:AV} (hcut:m.cutOk X.P t x=true)
  (h:Good (m.sliceA x lo hi) v) :
  ∃ u,(Instr.sliceAt t xv (lo.map (.int kl)) (hi.map (.int kh)) none).run X.P w= .ok u w/\RelA M γ v u:=by
 have main:∀ x:Cv,x≠ .un->(∀ a,x≠ .s a)->RelC M γ x xv->m.cutOk X.P t (.c x)=true->Good (m.sliceA (.c x) lo hi) v ->
   ∃ u,(Instr.sliceAt t xv (lo.map (.int kl)) (hi.map (.int kh)) none).run X.P w= .ok u w/\RelA M γ v u:=by
  intro x hun hns hx hcut h
  have hc:(match (m.vw x).ty with | some τ=>Nat.beq (sz τ) (elSz X.P t) | none=>false)=true:=by
   revert hcut; cases x<;>first | (exact absurd rfl (hns _)) | exact id
  rw [sliceA_cut m x hns] at h
  cases hty:(m.vw x).ty with
  | none=>simp [hty] at hc
  | some τ =>
   simp only [hty] at hc
   obtain ⟨e,i,he,hi',hs⟩:=elSz_pos (nat_beq hc).symm (sz_pos τ)
   have het:X.P.underlying t=some (.slice (X.P.elem t)):=by rw [elem_of_slice he]; exact he
   have hsize:∀ w,(sizeOf (X.P.elem t)).run X.P w= .ok (sz τ) w:=fun w=>by rw [elem_of_slice he,run_size hi' w,hs]
   cases hlen:(m.vw x).len with
   | none=>simp [hlen,Good] at h
   | some n =>
    simp only [hlen] at h
    rw [run_sliceAt_slice w t _ _ _ _ het]
    cases lo with
    | none =>
     cases hi with
     | none =>
      simp only [Good,Out.r0.injEq,reduceCtorEq,or_false] at h; subst h
      rcases vw_slcV hm hR hx hlen with ⟨rfl,rfl⟩ | ⟨g,o,cap,rfl,hn⟩
      ·exact ⟨_,by simp only [Option.map]; rw [run_slice_all w t _ _ _ het,hsize]; simp [sliced],RelA.of hx⟩
      ·exact ⟨_,by simp only [Option.map]; rw [run_slice_all w t _ _ _ het,hsize]; simp [sliced,Addr_add],RelA.of hx⟩
     | some hh =>
      simp only [Good,Out.r.injEq,reduceCtorEq,false_or,Bool.and_eq_true,decide_eq_true_eq] at h
      obtain ⟨⟨h0,h1⟩,rfl⟩:=h
      obtain ⟨a,cap,rfl,hn,hr⟩:=cut_rel hm hR hx hlen hty (l:=0) (k:=hh.toNat) (by omega)
      exact ⟨_,by simp only [Option.map]; rw [run_slice_h w t _ _ _ het _ _ h0 (by omega),hsize]; rfl,by simpa using hr⟩
    | some l =>
     cases hi with
     | none =>
      simp only [Good,Out.r.injEq,reduceCtorEq,false_or,Bool.and_eq_true,decide_eq_true_eq] at h
      obtain ⟨⟨h0,h1⟩,rfl⟩:=h
      obtain ⟨a,cap,rfl,hn,hr⟩:=cut_rel hm hR hx hlen hty (l:=l.toNat) (k:=n-l.toNat) (by omega)
      exact ⟨_,by simp only [Option.map]; rw [run_slice_l w t _ _ _ het _ _ h0 (by omega),hsize]; rfl,by rw [show l.toNat+(n-l.toNat)=n by omega] at hr; exact hr⟩
     | some hh =>
      simp only [Good,Out.r.injEq,reduceCtorEq,false_or,Bool.and_eq_true,decide_eq_true_eq] at h
      obtain ⟨⟨h0,h1,h2⟩,rfl⟩:=h
      obtain ⟨a,cap,rfl,hn,hr⟩:=cut_rel hm hR hx hlen hty (l:=l.toNat) (k:=hh.toNat-l.toNat) (by omega)
      exact ⟨_,by simp only [Option.map]; rw [run_slice_lh w t _ _ _ het _ _ _ _ h0 h1 (by omega),hsize]; rfl,by rw [show l.toNat+(hh.toNat-l.toNat)=hh.toNat by omega] at hr; exact hr⟩
 cases x with
 | c x =>
  cases x with
  | s a =>
   have hx:xv= .string a:=hx
   subst hx
   have hst:X.P.underlying t=some .string:=by
    revert hcut; simp only [Lk.cutOk,isStr]; split
    ·exact fun _=>by assumption
    ·simp
   rw [run_sliceAt_string w t _ _ _ _ hst]
   cases lo with
   | none =>
    cases hi with
    | none =>
     simp only [Good,Lk.sliceA,Out.r0.injEq,reduceCtorEq,or_false] at h; subst h
     exact ⟨_,by simp only [Option.map]; rw [run_slice_string_all w t a hst],rfl⟩
    | some hh =>
     simp only [Good,Lk.sliceA,Out.r.injEq,reduceCtorEq,false_or,Bool.and_eq_true,decide_eq_true_eq] at h
     obtain ⟨⟨h0,h1⟩,rfl⟩:=h
     exact ⟨_,by simp only [Option.map]; rw [run_slice_string_h w t a hst _ _ h0 h1],rfl⟩
   | some l =>
    cases hi with
    | none =>
     simp only [Good,Lk.sliceA,Out.r.injEq,reduceCtorEq,false_or,Bool.and_eq_true,decide_eq_true_eq] at h
     obtain ⟨⟨h0,h1⟩,rfl⟩:=h
     exact ⟨_,by simp only [Option.map]; rw [run_slice_string_l w t a hst _ _ h0 h1],rfl⟩
    | some hh =>
     simp only [Good,Lk.sliceA,Out.r.injEq,reduceCtorEq,false_or,Bool.and_eq_true,decide_eq_true_eq] at h
     obtain ⟨⟨h0,h1,h2⟩,rfl⟩:=h
     exact ⟨_,by simp only [Option.map]; rw [run_slice_string_lh w t a hst _ _ _ _ h0 h1 h2],rfl⟩
  | un=>simp [Lk.cutOk,Lk.vw,Vw.ty] at hcut
  | _=>exact main _ (by simp) (by simp) hx hcut h
 | _=>simp [Lk.cutOk] at hcut
theorem index_ok (hm:Le m M) (hR:Rel X M γ w) {t:TypeId} {x:Cv} {xv:Value} (hx:RelC M γ x xv) {i:Int} {k:IntKind} {v:AV} (h:Good (m.indexA x i (elSz X.P t)) v) :
  ∃ u,(Instr.indexAt t xv (.int k i)).run X.P w= .ok u w/\RelA M γ v u:=by
 have idx:∀ (τ:Ty) (g o n cap:Nat),Nat.beq (sz τ) (elSz X.P t)=true->0<=i->i<(n:Int) ->
   (Instr.indexAt t (.slice (some ⟨g,o,none⟩) n cap) (.int k i)).run X.P w= .ok (.pointer (some ⟨g,o+i.toNat*sz τ,none⟩)) w:=by
  intro τ g o n cap hz h0 h1
  obtain ⟨e,inf,he,hi',hs⟩:=elSz_pos (nat_beq hz).symm (sz_pos τ)
  simp [Instr.indexAt,asIntOf,run_underlying he,h0,h1,run_size hi',hs,Addr_add]
 cases x with
 | sw r =>
  simp only [Lk.indexA,Lk.vw] at h
  cases hr:m.r r with
  | none=>simp [hr,Good] at h
  | some row =>
   simp only [hr] at h
   cases hz:Nat.beq (sz row.τ) (elSz X.P t) with
   | false=>simp [hz,Good] at h
   | true =>
    simp only [hz,Good,Out.r.injEq,reduceCtorEq,false_or,inR,Bool.and_eq_true,decide_eq_true_eq] at h
    obtain ⟨⟨h0,h1⟩,rfl⟩:=h
    have hs:=vw_slcV hm hR hx (n:=row.xs.length) (by simp [Lk.vw,hr,Vw.len])
    rcases hs with ⟨_,hn⟩ | ⟨g,o,cap,rfl,hn⟩
    ·omega
    ·refine ⟨_,idx row.τ g o _ cap hz h0 h1,row,hm.r r row hr,by omega,g,o,row.xs.length,cap,hx.2.symm,by simp⟩
 | sl r off len =>
  simp only [Lk.indexA,Lk.vw] at h
  cases hr:m.r r with
  | none=>simp [hr,Good] at h
  | some row =>
   simp only [hr] at h
   cases hz:Nat.beq (sz row.τ) (elSz X.P t) with
   | false=>simp [hz,Good] at h
   | true =>
    simp only [hz,Good,Out.r.injEq,reduceCtorEq,false_or,inR,Bool.and_eq_true,decide_eq_true_eq] at h
    obtain ⟨⟨h0,h1⟩,rfl⟩:=h
    obtain ⟨row',hr',hle,hsub⟩:=hx
    rw [hm.r r row hr] at hr'; cases hr'
    rcases hsub with ⟨_,_,hn⟩ | ⟨g,o,n',cap,o',cap',hb,rfl,hlc,_,_,ho⟩
    ·omega
    ·refine ⟨_,idx row.τ g o' len cap' hz h0 h1,row,hm.r r row hr,by omega,g,o,n',cap,hb,?_⟩
     rcases ho with ho | ho
     ·omega
     ·rw [ho,Nat.add_mul]; simp [Nat.add_assoc]
 | nw r e c =>
  simp only [Lk.indexA,Lk.vw,nth_eq] at h
  cases hr:m.r r with
  | none=>simp [hr,Good] at h
  | some row =>
   have hx':=hx
   obtain ⟨row',τ',ys,hr',he,hc,hu⟩:=hx
   rw [hm.r r row hr] at hr'; cases hr'
   simp only [hr,hc] at h
   cases hz:Nat.beq (sz τ') (elSz X.P t) with
   | false=>simp [hz,Good] at h
   | true =>
    simp only [hz,Good,Out.r.injEq,reduceCtorEq,false_or,inR,Bool.and_eq_true,decide_eq_true_eq] at h
    obtain ⟨⟨h0,h1⟩,rfl⟩:=h
    have hs:=vw_slcV hm hR hx' (n:=ys.length) (by simp [Lk.vw,hr,nth_eq,hc,Vw.len])
    rcases hs with ⟨_,hn⟩ | ⟨g,o,cap,rfl,hn⟩
    ·omega
    ·exact ⟨_,idx τ' g o _ cap hz h0 h1,row,τ',ys,_,hm.r r row hr,he,hc,hu,by omega,g,o,_,cap,rfl,by simp⟩
 | ns r e c off len =>
  simp only [Lk.indexA,Lk.vw,nth_eq] at h
  cases hr:m.r r with
  | none=>simp [hr,Good] at h
  | some row =>
   obtain ⟨row',τ',ys,u,hr',he,hc,hu,hle,hsub⟩:=hx
   rw [hm.r r row hr] at hr'; cases hr'
   simp only [hr,hc] at h
   cases hz:Nat.beq (sz τ') (elSz X.P t) with
   | false=>simp [hz,Good] at h
   | true =>
    simp only [hz,Good,Out.r.injEq,reduceCtorEq,false_or,inR,Bool.and_eq_true,decide_eq_true_eq] at h
    obtain ⟨⟨h0,h1⟩,rfl⟩:=h
    rcases hsub with ⟨_,_,hn⟩ | ⟨g,o,n',cap,o',cap',hb,rfl,hlc,_,_,ho⟩
    ·omega
    ·refine ⟨_,idx τ' g o' len cap' hz h0 h1,row,τ',ys,u,hm.r r row hr,he,hc,hu,by omega,g,o,n',cap,hb,?_⟩
     rcases ho with ho | ho
     ·omega
     ·rw [ho,Nat.add_mul]; simp [Nat.add_assoc]
 | _=>simp [Lk.indexA,Good] at h
theorem field_ok {t:TypeId} {f n:Nat} {a:Cv} {av:Value} (ha:RelC M γ a av) (hf:fOff X.P t f=some n) (hz:Nat.beq (szOf X.P (fTy X.P t f)) 0=false) (hun:addO a n≠ .un) :
  ∃ u,(Instr.fieldAt t av f).run X.P w= .ok u w/\RelC M γ (addO a n) u:=by
 obtain ⟨fs,x,hu,hx,rfl⟩:∃ fs x,X.P.underlying t=some (.struct fs)/\fs[f]? =some x/\x.offset=n:=by
  revert hf; simp only [fOff]; split
  ·rename_i fs hfs
   split
   ·rename_i x hx; intro h; exact ⟨fs,x,hfs,hx,by simpa using h⟩
   ·simp
  ·simp
 have hty:fTy X.P t f=x.type:=by simp [fTy,hu,hx]
 have hsz:∃ i,X.P.info? x.type=some i/\i.size≠0:=by
  rw [hty] at hz
  simp only [szOf] at hz
  cases hi:X.P.info? x.type with
  | none=>simp [hi] at hz
  | some i=>exact ⟨i,rfl,fun h0=>by rw [hi] at hz; simp [h0] at hz⟩
 obtain ⟨i,hi,hi0⟩:=hsz
 have run:∀ a:Addr,(Instr.fieldAt t (.pointer (some a)) f).run X.P w= .ok (.pointer (some (a.add x.offset))) w:=by
  intro a
  simp [Instr.fieldAt,run_underlying hu,hx,Instr.sureAddr,fieldPlace,run_size hi,hi0]
 cases a with
 | pv k c =>
  obtain ⟨h1,rfl⟩:=ha
  exact ⟨_,run _,h1,by rw [Addr_add]⟩
 | pe r e c =>
  obtain ⟨row,h1,h2,g,o,n,cap,h3,rfl⟩:=ha
  exact ⟨_,run _,row,h1,h2,g,o,n,cap,h3,by rw [Addr_add]; simp [Nat.add_assoc]⟩
 | pn r e c k d =>
  obtain ⟨row,τ,ys,u,h1,h2,h3,h4,h5,g,o,n,cap,h6,rfl⟩:=ha
  exact ⟨_,run _,row,τ,ys,u,h1,h2,h3,h4,h5,g,o,n,cap,h6,by rw [Addr_add]; simp [Nat.add_assoc]⟩
 | _=>simp [addO] at hun
theorem RelL.length {l:List Cv} {u:List Value} (h:RelL M γ l u):l.length=u.length:=by
 induction h with
 | nil=>rfl
 | cons _ _ ih=>simp [ih]
theorem RelL.drop {l:List Cv} {u:List Value} (h:RelL M γ l u):∀ n,RelL M γ (l.drop n) (u.drop n):=by
 induction h with
 | nil=>intro n; simpa using RelL.nil
 | cons hx hl ih=>intro n; cases n with
  | zero=>exact .cons hx hl
  | succ n=>simpa using ih n
theorem RelL.take {l:List Cv} {u:List Value} (h:RelL M γ l u):∀ n,RelL M γ (l.take n) (u.take n):=by
 induction h with
 | nil=>intro n; simpa using RelL.nil
 | cons hx hl ih=>intro n; cases n with
  | zero=>exact .nil
  | succ n=>simpa using RelL.cons hx (ih n)
theorem RelL.append {l l':List Cv} {u u':List Value} (h:RelL M γ l u) (h':RelL M γ l' u'):RelL M γ (l++l') (u++u'):=by
 induction h with
 | nil=>exact h'
 | cons hx hl ih=>exact .cons hx ih
theorem RelL.get {l:List Cv} {u:List Value} (h:RelL M γ l u) {i:Nat} {x:Cv} (hx:l[i]? =some x):∃ v,u[i]? =some v/\RelC M γ x v:=by
 induction h generalizing i with
 | nil=>simp at hx
 | cons hx' hl ih=>cases i with
  | zero=>simp at hx; subst hx; exact ⟨_,rfl,hx'⟩
  | succ i=>exact ih hx
theorem RelL.of_get {l:List Cv}:∀ {u:List Value},l.length=u.length->(∀ (i:Nat) (x:Cv) (v:Value),l[i]? =some x->u[i]? =some v->RelC M γ x v)->RelL M γ l u:=by
 induction l with
 | nil=>intro u hl _; cases u with | nil=>exact .nil | cons=>simp at hl
 | cons x l ih=>intro u hl h; cases u with
  | nil=>simp at hl
  | cons v u=>exact .cons (h 0 x v rfl rfl) (ih (by simpa using hl) fun i x v hx hv=>h (i+1) x v hx hv)
theorem cell_block {g o:Nat} {cur:Array Value} {e:TypeId} {fz:Nat×Nat} (h:w.heap[g]? =some (.cells cur e fz)) (i:Nat):w.cell? ⟨g,i,none⟩=cur[i]? :=by
 simp [World.cell?,h]
theorem SlF.cell {A:Nat->Prop} {z:Nat} {v:Value} {n:Nat} {cs:List Value} (h:SlF A w z v n cs) {g o n' cap:Nat} (hv:v= .slice (some ⟨g,o,none⟩) n' cap) {i:Nat} {u:Value}
  (hu:cs[i]? =some u):w.cell? ⟨g,o+i,none⟩=some u:=by
 rcases h.2 with ⟨hn,_⟩ | ⟨g1,o1,cap1,cur,e,fz,hv1,hg,_,_,hsz,ht⟩
 ·rw [hn] at hv; cases hv
 ·rw [hv1] at hv
  obtain ⟨rfl,rfl⟩:g1=g/\o1=o:=by
   injection hv with h1 _ _; injection h1 with h1; injection h1 with h1 h2 _; exact ⟨h1,h2⟩
  have hi:i<n*z:=by
   have:=(List.getElem?_eq_some_iff.1 hu).1
   rwa [h.1] at this
  rw [cell_block (o:=0) hg,← hu,← ht,List.getElem?_take,if_pos hi,List.getElem?_drop,Array.getElem?_toList]
theorem cvsOf_get (r e:Nat):∀ (l:List Ct) (c i:Nat),(cvsOf r e c l)[i]? =(l[i]?).map (cvOf r e (c+i)):=by
 intro l
 induction l with
 | nil=>intro c i; simp [cvsOf]
 | cons x l ih=>intro c i; cases i with
  | zero=>simp [cvsOf]
  | succ i=>simp [cvsOf,ih,Nat.add_assoc,Nat.add_comm 1]
theorem cvsOf_length (r e:Nat):∀ (l:List Ct) (c:Nat),(cvsOf r e c l).length=l.length:=by
 intro l
 induction l with
 | nil=>intro c; rfl
 | cons x l ih=>intro c; simp [cvsOf,ih]
theorem row_cells (hR:Rel X M γ w) {r e:Nat} {row:Row} (hr:M.r r=some row) (he:e<row.xs.length) :
  RelL M γ (cvsOf r e 0 (row.cs e)) (((γ.cv r).drop (e*sz row.τ)).take (sz row.τ)):=by
 have hl:(γ.cv r).length=row.xs.length*sz row.τ:=(hR.rs r row hr).top.slF.1
 have hle:(e+1)*sz row.τ<=row.xs.length*sz row.τ:=Nat.mul_le_mul_right _ he
 rw [Nat.add_mul] at hle
 have hcl:(row.cs e).length=sz row.τ:=cells_length _ _
 apply RelL.of_get
 ·rw [cvsOf_length,hcl,List.length_take,List.length_drop]; omega
 ·intro i x v hx hv
  rw [cvsOf_get,Nat.zero_add] at hx
  cases hc:(row.cs e)[i]? with
  | none=>simp [hc] at hx
  | some ct =>
   simp [hc] at hx; subst hx
   obtain ⟨u,hu,hcr⟩:=(hR.rs r row hr).cel e i ct he hc
   have hi:i<sz row.τ:=by have:=(List.getElem?_eq_some_iff.1 hc).1; rwa [hcl] at this
   have:v=u:=by
    rw [List.getElem?_take,if_pos hi,List.getElem?_drop,hu] at hv; exact (Option.some.inj hv).symm
   subst this
   cases ct with
   | u=>exact hcr.elim
   | l τ ys=>exact ⟨row,τ,ys,hr,he,hc,hu⟩
   | _=>exact hcr
theorem flat_cells {τ:Ty} (hd:τ.deep=false) (y:El τ):RelL M γ (cvsOf 0 0 0 (cells τ y)) ((cells τ y).map ctVal):=by
 apply RelL.of_get
 ·rw [cvsOf_length,List.length_map]
 ·intro i x v hx hv
  rw [cvsOf_get] at hx
  rw [List.getElem?_map] at hv
  cases hc:(cells τ y)[i]? with
  | none=>simp [hc] at hx
  | some ct =>
   simp [hc] at hx hv; subst hx; subst hv
   have hm:=List.mem_of_getElem? hc
   cases ct with
   | u=>exact absurd hm (cells_nou _)
   | l σ ys=>exact absurd rfl (cells_flat hd _ _ hm σ ys)
   | _=>rfl
theorem from_ok (hm:Le m M) (hR:Rel X M γ w) {a:Cv} {av:Value} (ha:RelC M γ a av) {cs:List Cv} (h:m.from a=some cs) :
  ∃ g o us,av= .pointer (some ⟨g,o,none⟩)/\RelL M γ cs us/\∀ j u,us[j]? =some u->w.cell? ⟨g,o+j,none⟩=some u:=by
 cases a with
 | pv k c =>
  simp only [Lk.from] at h
  cases hv:m.v k with
  | none=>simp [hv] at h
  | some cells =>
   simp only [hv,Option.some.injEq] at h; subst h
   obtain ⟨_,rfl⟩:=ha
   obtain ⟨_,cur,e,hg,hrel⟩:=hR.vs k cells (hm.v k cells hv)
   refine ⟨_,_,cur.toList.drop c,rfl,hrel.drop c,fun j u hu=> ?_⟩
   rw [cell_block (o:=0) hg]; simpa using hu
 | pe r e c =>
  simp only [Lk.from] at h
  cases hr:m.r r with
  | none=>simp [hr] at h
  | some row =>
   simp only [hr,Option.some.injEq] at h; subst h
   obtain ⟨row',hr',he,g,o,n,cap,hb,rfl⟩:=ha
   have hr2:=hm.r r row hr
   rw [hr2] at hr'; cases hr'
   refine ⟨_,_,_,rfl,(row_cells hR hr2 he).drop c,fun j u hu=> ?_⟩
   rw [List.getElem?_drop,List.getElem?_take] at hu
   split at hu
   ·rw [List.getElem?_drop] at hu
    have:=(hR.rs r row hr2).top.slF.cell hb hu
    rw [← this]; congr 2; omega
   ·cases hu
 | pn r e c k d =>
  simp only [Lk.from,Lk.vw,nth_eq] at h
  cases hr:m.r r with
  | none=>simp [hr] at h
  | some row =>
   obtain ⟨row',τ',ys,u,hr',he,hc,hu,hk,g,o,n,cap,hb,rfl⟩:=ha
   have hr2:=hm.r r row hr
   rw [hr2] at hr'; cases hr'
   simp only [hr,hc] at h
   obtain ⟨u',hu',hd,hs⟩:=(hR.rs r row hr2).cel e c _ he hc
   rw [hu] at hu'; cases hu'
   simp only [hd,Option.some.injEq] at h; subst h
   refine ⟨_,_,_,rfl,(flat_cells hd _).drop d,fun j v hv=> ?_⟩
   rw [List.getElem?_drop,List.getElem?_map] at hv
   cases hct:(cells τ' (ys.getD k (dflt τ')))[d+j]? with
   | none=>rw [hct] at hv; simp at hv
   | some ct =>
    have hdj:d+j<sz τ':=by have:=(List.getElem?_eq_some_iff.1 hct).1; rwa [cells_length] at this
    have hf:=getElem?_flatMap_cells τ' ys k (d+j) hk hdj
    rw [hct] at hf hv
    simp at hv; subst hv
    have:=hs.slF.cell hb hf
    rw [← this]; congr 2; omega
 | _=>simp [Lk.from] at h
theorem info_of_und {P:Program} {t:TypeId} {d:TypeDesc} (h:P.underlying t=some d):∃ i,P.info? t=some i:=by
 cases hi:P.info? t with
 | some i=>exact ⟨i,rfl⟩
 | none=>exfalso; revert h; simp [Program.underlying,hi]
theorem isAg_run {P:Program} {t:TypeId} {w:World} {i:TypeInfo} (hi:P.info? t=some i) (hu:∃ d,P.underlying t=some d):(isAgg t).run P w= .ok (isAg P t) w:=by
 obtain ⟨d,hd⟩:=hu
 simp only [isAgg,Sem.run_bind,run_underlying hd,Result.andThen_ok,isAg,hd]
 cases d<;>rfl
theorem ldOk_inv {P:Program} {t:TypeId} (h:ldOk P t=true):(∃ d,P.underlying t=some d)/\(isAg P t=false->szOf P t=1):=by
 simp only [ldOk] at h
 simp only [isAg]
 cases hd:P.underlying t with
 | none=>simp [hd] at h
 | some d =>
  refine ⟨⟨d,rfl⟩,fun ha=> ?_⟩
  rw [hd] at h
  cases d<;>first | (exact nat_beq h) | (simp at ha)
theorem load_ok (hm:Le m M) (hR:Rel X M γ w) {t:TypeId} {a:Cv} {av:Value} (ha:RelC M γ a av) {cs:List Cv} (h:m.from a=some cs) (hz:Nat.ble (szOf X.P t) cs.length=true)
  (hld:ldOk X.P t=true):∃ u,(Instr.loadAt t av).run X.P w= .ok u w/\RelA M γ (mkA (isAg X.P t) (cs.take (szOf X.P t))) u:=by
 obtain ⟨g,o,us,rfl,hrel,hcell⟩:=from_ok hm hR ha h
 obtain ⟨⟨d,hd⟩,hone⟩:=ldOk_inv hld
 obtain ⟨i,hi⟩:=info_of_und hd
 have hsz:szOf X.P t=i.size:=by simp [szOf,hi]
 have hz:szOf X.P t<=cs.length:=Nat.le_of_ble_eq_true hz
 rw [hsz] at hz hone ⊢
 have hlen:=hrel.length
 simp only [Instr.loadAt,Instr.sureAddr,loadVar,Sem.run_bind,Sem.run_pure,Result.andThen_ok,isAg_run hi ⟨d,hd⟩]
 cases hag:isAg X.P t with
 | true =>
  simp only [if_true,Sem.run_bind,run_size hi,Result.andThen_ok]
  have hload:(loadCells ⟨g,o,none⟩ i.size).run X.P w= .ok (us.take i.size).toArray w:=by
   have:=run_loadCells_list (P:=X.P) w ⟨g,o,none⟩ (us.take i.size) (fun j v hj=>by
    rw [Addr_add]
    rw [List.getElem?_take] at hj
    split at hj
    ·exact hcell j v hj
    ·cases hj)
   rwa [show (us.take i.size).length=i.size by rw [List.length_take]; omega] at this
  rw [hload]
  exact ⟨_,rfl,_,rfl,hrel.take _⟩
 | false =>
  simp only [Bool.false_eq_true,if_false]
  have h1:=hone hag
  rw [h1] at hz ⊢
  cases us with
  | nil=>simp at hlen; subst hlen; simp at hz
  | cons u us =>
   cases hrel with
   | cons hx hl =>
    refine ⟨u,?_,RelA.of hx⟩
    have:=hcell 0 u rfl
    rw [Nat.add_zero] at this
    simp [this]
theorem SlcV.one {v:Value} {n:Nat} (h:SlcV v n):v.oneCell'=true:=by
 rcases h with ⟨rfl,rfl⟩ | ⟨g,o,cap,rfl,_⟩<;>rfl
theorem RelC.one (hR:Rel X M γ w) {x:Cv} {v:Value} (h:RelC M γ x v):v.oneCell'=true:=by
 cases x with
 | un=>exact h
 | b x=>have h:v=_:=h; subst h; rfl
 | i k n=>have h:v=_:=h; subst h; rfl
 | s x=>have h:v=_:=h; subst h; rfl
 | nl τ=>have h:v=_:=h; subst h; rfl
 | sw r=>obtain ⟨⟨row,hr⟩,rfl⟩:=h; exact (hR.rs r row hr).top.slF.slcV.one
 | sl r off len=>obtain ⟨_,_,_,hs⟩:=h; exact (SlcV.sub (n:=0) hs).one
 | nw r e c =>
  obtain ⟨row,τ,ys,hr,he,hc,hu⟩:=h
  obtain ⟨u',hu',hcell⟩:=(hR.rs r row hr).cel e c _ he hc
  rw [hu] at hu'; cases hu'
  exact hcell.2.slF.slcV.one
 | ns r e c off len=>obtain ⟨_,_,_,_,_,_,_,_,_,hs⟩:=h; exact (SlcV.sub (n:=0) hs).one
 | pv k c=>obtain ⟨_,rfl⟩:=h; rfl
 | pe r e c=>obtain ⟨_,_,_,_,_,_,_,_,rfl⟩:=h; rfl
 | pn r e c k d=>obtain ⟨_,_,_,_,_,_,_,_,_,_,_,_,_,_,rfl⟩:=h; rfl
 | fn f caps=>obtain ⟨_,rfl⟩:=h; rfl
theorem one_cells {v:Value} (h:v.oneCell'=true):v.cells= #[v]:=by cases v<;>first | rfl | simp [Value.oneCell'] at h
theorem cells_ok (hR:Rel X M γ w) {x:AV} {v:Value} {cs:List Cv} (hx:RelA M γ x v) (h:x.cells=some cs):RelL M γ cs v.cells.toList:=by
 cases x with
 | c y =>
  have:y≠ .un/\cs=[y]:=by cases y<;>simp_all [AV.cells]
  obtain ⟨hy,rfl⟩:=this
  have hy:=RelA.to hx hy
  rw [one_cells (hy.one hR)]
  exact .cons hy .nil
 | a l =>
  simp only [AV.cells,Option.some.injEq] at h; subst h
  obtain ⟨us,rfl,hr⟩:=hx
  simpa [Value.cells] using hr
 | _=>simp [AV.cells] at h
theorem RelL.one (hR:Rel X M γ w) {l:List Cv} {u:List Value} (h:RelL M γ l u):∀ v∈u,v.oneCell'=true:=by
 induction h with
 | nil=>simp
 | cons hx hl ih=>intro v hv; rcases List.mem_cons.1 hv with rfl | hv; exact hx.one hR; exact ih v hv
theorem field_val {t:TypeId} {f n:Nat} {l:List Cv} {xv:Value} (hx:RelA M γ (.a l) xv) (hf:fOff X.P t f=some n)
  (hz:Nat.ble (n+szOf X.P (fTy X.P t f)) l.length=true) (hld:ldOk X.P (fTy X.P t f)=true) :
  ∃ u,(Instr.field t xv f).run X.P w= .ok u w/\RelA M γ (mkA (isAg X.P (fTy X.P t f)) ((l.drop n).take (szOf X.P (fTy X.P t f)))) u:=by
 obtain ⟨fs,x,hu,hx',rfl⟩:∃ fs x,X.P.underlying t=some (.struct fs)/\fs[f]? =some x/\x.offset=n:=by
  revert hf; simp only [fOff]; split
  ·rename_i fs hfs
   split
   ·rename_i x hx; intro h; exact ⟨fs,x,hfs,hx,by simpa using h⟩
   ·simp
  ·simp
 have hty:fTy X.P t f=x.type:=by simp [fTy,hu,hx']
 rw [hty] at hz hld ⊢
 obtain ⟨⟨d,hd⟩,hone⟩:=ldOk_inv hld
 obtain ⟨i,hi⟩:=info_of_und hd
 have hsz:szOf X.P x.type=i.size:=by simp [szOf,hi]
 have hz:x.offset+szOf X.P x.type<=l.length:=Nat.le_of_ble_eq_true hz
 rw [hsz] at hz hone ⊢
 obtain ⟨us,rfl,hrel⟩:=hx
 have hlen:=hrel.length
 simp only [Instr.field,Sem.run_bind,run_underlying hu,Result.andThen_ok,hx',asAgg,Sem.run_pure,part,isAg_run hi ⟨d,hd⟩]
 cases hag:isAg X.P x.type with
 | true =>
  simp only [if_true,Sem.run_bind,run_size hi,Result.andThen_ok,Sem.run_pure]
  refine ⟨_,rfl,((us.drop x.offset).take i.size),?_,(hrel.drop _).take _⟩
  congr 1
  apply Array.toList_inj.1
  simp [List.extract_eq_take_drop]
 | false =>
  simp only [Bool.false_eq_true,if_false]
  rw [hone hag] at hz ⊢
  have h2:=(hrel.drop x.offset)
  have h3:(l.drop x.offset).length=l.length-x.offset:=List.length_drop
  cases hdl:l.drop x.offset with
  | nil=>rw [hdl] at h3; simp at h3; omega
  | cons y rest =>
   rw [hdl] at h2
   cases hdu:us.drop x.offset with
   | nil=>rw [hdu] at h2; cases h2
   | cons u us' =>
    rw [hdu] at h2
    cases h2 with
    | cons hy _ =>
     have:us[x.offset]? =some u:=by
      have:=congrArg (fun l=>l[0]?) hdu
      simpa [List.getElem?_drop] using this
     refine ⟨u,by simp [this],RelA.of hy⟩
theorem nth_val {l:List (Bool×List Cv)} {us:List Value} (h:RelTs M γ l us) {i:Nat} {p:Bool×List Cv} (hp:l[i]? =some p):∃ u,us[i]? =some u/\RelP M γ p u:=by
 induction h generalizing i with
 | nil=>simp at hp
 | cons hx hl ih=>cases i with
  | zero=>simp at hp; subst hp; exact ⟨_,rfl,hx⟩
  | succ i=>exact ih hp
theorem extract_ok {l:List (Bool×List Cv)} {xv:Value} (hx:RelA M γ (.t l) xv) {i:Nat} {b:Bool} {cs:List Cv} (h:nth l i=some (b,cs)) :
  ∃ u,(Instr.extract xv i).run X.P w= .ok u w/\RelA M γ (mkA b cs) u:=by
 obtain ⟨us,rfl,hr⟩:=hx
 rw [nth_eq] at h
 obtain ⟨u,hu,vs,hv,h1,h2⟩:=nth_val hr h
 refine ⟨u,by simp [Instr.extract,hu],?_⟩
 cases b with
 | true=>exact ⟨vs,h1 rfl,hv⟩
 | false =>
  have:=h2 rfl
  subst this
  cases hv with
  | cons hx hl=>cases hl; exact RelA.of hx
theorem len_str {t ty:TypeId} {a:ByteArray} (ht:isStr X.P t=true):(Builtin.len_ #[t] (ty:TypeId) #[.string a]).run X.P w= .ok (.int .i64 a.size) w:=by
 have hst:X.P.underlying t=some .string:=by
  revert ht; simp only [isStr]; split
  ·exact fun _=>by assumption
  ·simp
 simp [Builtin.len_,run_underlying hst,goInt]
theorem len_slc {t ty:TypeId} {a:Option Addr} {n cap:Nat} (ht:isSlc X.P t=true):(Builtin.len_ #[t] (ty:TypeId) #[.slice a n cap]).run X.P w= .ok (.int .i64 n) w:=by
 obtain ⟨e,he⟩:∃ e,X.P.underlying t=some (.slice e):=by
  revert ht; simp only [isSlc]; split
  ·exact fun _=>⟨_,by assumption⟩
  ·simp
 simp [Builtin.len_,run_underlying he,goInt]
theorem SlcV.slice {v:Value} {n:Nat} (h:SlcV v n):∃ a cap,v= .slice a n cap:=by
 rcases h with ⟨rfl,rfl⟩ | ⟨g,o,cap,rfl,_⟩
 ·exact ⟨_,_,rfl⟩
 ·exact ⟨_,_,rfl⟩
theorem index_str {t:TypeId} {a:ByteArray} {k:IntKind} {i:Int} (ht:isStr X.P t=true) (hi:inR i a.size=true):(Instr.index t (.string a) (.int k i)).run X.P w= .ok (.int .u8 (bt a i.toNat)) w:=by
 have hst:X.P.underlying t=some .string:=by
  revert ht; simp only [isStr]; split
  ·exact fun _=>by assumption
  ·simp
 simp only [inR,Bool.and_eq_true,decide_eq_true_eq] at hi
 have h1:i.toNat<a.size:=by omega
 have h2:a[i.toNat]? =some a[i.toNat]:=getElem?_pos a i.toNat h1
 simp [Instr.index,asIntOf,run_underlying hst,hi.1,h2]
 have h3:i.toNat<a.data.size:=h1
 simp only [bt,Array.getD,dif_pos h3]
 rfl
theorem unOp_ok {op:UnOp} {x:AV} {xv:Value} {v:AV} (hx:RelA M γ x xv) (h:Good (unO op x) v):∃ u,(Op.unary op xv).run X.P w= .ok u w/\RelA M γ v u:=by
 cases op<;>cases x<;>try (simp [unO,Good] at h; done)
 case not.c x =>
  cases x<;>simp [unO,Good] at h
  subst h; have hx:xv= .bool _:=hx; subst hx; exact ⟨_,rfl,rfl⟩
 case neg.c x =>
  cases x<;>simp [unO,Good] at h
  subst h; have hx:xv= .int _ _:=hx; subst hx; exact ⟨_,rfl,by show _=_; simp⟩
theorem conv_int_ok {t u:TypeId} {k k':IntKind} {n:Int} {du dt:TypeDesc} (ht:X.P.underlying t=some dt) (hu:X.P.underlying u=some (.int k)) :
  (convert t u (.int k' n)).run X.P w= .ok (.int k (k.wrap n)) w:=by
 simp only [convert,Sem.run_bind,run_underlying ht,run_underlying hu,Result.andThen_ok]
 cases dt<;>rfl
theorem repl_length {α:Type} (l m:List α) (c:Nat) (h:c+m.length<=l.length):(repl l c m).length=l.length:=by
 simp [repl]; omega
theorem RelL.repl {l l':List Cv} {u u':List Value} (h:RelL M γ l u) (h':RelL M γ l' u') (c:Nat):RelL M γ (Soft.repl l c l') (Soft.repl u c u'):=by
 simp only [Soft.repl,← h'.length]
 exact ((h.take _).append h').append (h.drop _)
theorem fold_set (off:Nat):∀ (vs:List Value) (k:Nat) (acc:Array Value),off+k+vs.length<=acc.size ->
  ((vs.zipIdx k).foldl (fun cs (p:Value×Nat)=>cs.setIfInBounds (off+p.2) p.1) acc).toList=Soft.repl acc.toList (off+k) vs:=by
 intro vs
 induction vs with
 | nil=>intro k acc h; simp [Soft.repl]
 | cons v vs ih =>
  intro k acc h
  simp only [List.zipIdx_cons,List.foldl_cons,List.length_cons] at h ⊢
  rw [ih (k+1) _ (by simp; omega)]
  simp only [Soft.repl,Array.toList_setIfInBounds,List.length_cons]
  have h1:off+k<acc.toList.length:=by simp; omega
  apply List.ext_getElem?
  intro i
  simp only [List.getElem?_append,List.length_append,List.length_take,List.length_set,List.length_cons,List.getElem?_take,List.getElem?_drop,List.getElem?_set]
  rcases Nat.lt_trichotomy i (off+k) with hi | hi | hi
  ·simp [show i<min (off+(k+1)) acc.toList.length by omega,show i<off+(k+1) by omega,show i<off+k by omega,show i<min (off+k) acc.toList.length by omega,show ¬ off+k=i by omega]
   grind
  ·subst hi
   simp [show off+k<min (off+(k+1)) acc.toList.length by omega,show ¬ off+k<min (off+k) acc.toList.length by omega]
   grind
  ·grind
theorem zEq_ok {x:Cv} {v:Value} (h:zEq x v=true):RelC M γ x v:=by
 cases x<;>cases v<;>simp_all [zEq,RelC,Value.oneCell']
 case b x y=>cases x<;>cases y<;>simp_all [zEq]
 case i k n k' n' =>
  obtain ⟨h1,h2⟩:=h
  have:=kEq_eq h1
  split at h2
  ·rename_i h3 h4; exact ⟨this.symm,rfl⟩
  ·cases h2
 case nl τ a n c =>
  revert h; cases a<;>cases n<;>cases c<;>simp [zEq]
theorem zEqs_ok {l:List Cv}:∀ {u:List Value},zEqs l u=true->RelL M γ l u:=by
 induction l with
 | nil=>intro u h; cases u with | nil=>exact .nil | cons=>simp [zEqs] at h
 | cons x l ih=>intro u h; cases u with
  | nil=>simp [zEqs] at h
  | cons v u=>simp only [zEqs,Bool.and_eq_true] at h; exact .cons (zEq_ok h.1) (ih h.2)
theorem zero_ok {t:TypeId} {cs:List Cv} (h:X.zero t=some cs):∃ i z,X.P.info? t=some i/\i.zero=some z/\RelL M γ cs z.cells.toList:=by
 simp only [Ctx.zero] at h
 revert h; split
 ·rename_i cs' i h1 h2
  split
  ·rename_i z hz
   split
   ·rename_i hq; intro h; cases h; exact ⟨i,z,h2,hz,zEqs_ok hq⟩
   ·simp
  ·simp
 ·simp
theorem fill_ok (hR:Rel X M γ w) {t:TypeId} {f:Operand->AV} (hf:∀ o,RelA M γ (f o) (ρ o)) {place:Nat->Option (Nat×Nat)}
  (hp:∀ i off,fOff X.P t i=some off->place i=some (off,szOf X.P (fTy X.P t i))) :
  ∀ (parts:List (Nat×Operand)) (acc cs:List Cv) (zs:Array Value),RelL M γ acc zs.toList->fillP X t f parts acc=some cs ->
   ∃ arr,Instr.fill place zs (parts.map fun p=>(p.1,ρ p.2))=some arr/\RelL M γ cs arr.toList:=by
 intro parts
 induction parts with
 | nil=>intro acc cs zs hz h; simp only [fillP,Option.some.injEq] at h; subst h; exact ⟨zs,rfl,hz⟩
 | cons p parts ih =>
  obtain ⟨i,o⟩:=p
  intro acc cs zs hz h
  simp only [fillP] at h
  cases ho:fOff X.P t i with
  | none=>simp [ho] at h
  | some off =>
   cases hc:(f o).cells with
   | none=>simp [ho,hc] at h
   | some cs' =>
    simp only [ho,hc] at h
    cases h1:Nat.ble (off+cs'.length) acc.length with
    | false=>simp [h1] at h
    | true =>
     cases h2:Nat.beq cs'.length (szOf X.P (fTy X.P t i)) with
     | false=>simp [h1,h2] at h
     | true =>
      simp only [h1,h2] at h
      have h1:=Nat.le_of_ble_eq_true h1
      have h2:=nat_beq h2
      have hr:=cells_ok hR (hf o) hc
      have hl:=hr.length
      have hz':=hz.length
      simp only [Array.length_toList] at hl hz'
      simp only [List.map_cons,Instr.fill,hp i off ho]
      rw [if_neg (by simp; omega)]
      apply ih _ _ _ _ h
      have:=fold_set off (ρ o).cells.toList 0 zs (by simp; omega)
      rw [Nat.add_zero] at this
      have e:(Array.foldl (fun cs (x:Value×Nat)=>cs.setIfInBounds (off+x.2) x.1) zs (ρ o).cells.zipIdx).toList=Soft.repl zs.toList off (ρ o).cells.toList:=by
       rw [← this,← Array.foldl_toList,Array.toList_zipIdx]
      rw [e]
      exact hz.repl hr off
theorem places_ok {P:Program}:∀ (fs:List Field),plAll P fs=true->fs.mapM (fun f=>(P.info? f.type).map fun i=>(f.offset,i.size))=some (fs.map fun f=>(f.offset,szOf P f.type))
 | [],_=>rfl
 | f::fs,h=>by
  simp only [plAll] at h
  cases hi:P.info? f.type with
  | none=>simp [hi] at h
  | some i =>
   simp only [hi] at h
   simp [List.mapM_cons,hi,places_ok fs h,szOf]
theorem build_ok (hR:Rel X M γ w) {t:TypeId} {parts:Array (Nat×Operand)} {f:Operand->AV} (hf:∀ o,RelA M γ (f o) (ρ o)) {zs cs:List Cv} (hz:X.zero t=some zs) (hp:plOk X.P t=true)
  (h:fillP X t f parts.toList zs=some cs):∃ u,(Instr.build t (parts.map fun (i,x)=>(i,ρ x))).run X.P w= .ok u w/\RelA M γ (.a cs) u:=by
 obtain ⟨i,z,hi,hzz,hr⟩:=zero_ok (M:=M) (γ:=γ) hz
 obtain ⟨fs,hu,hpl⟩:∃ fs,X.P.underlying t=some (.struct fs)/\plAll X.P fs.toList=true:=by
  revert hp; simp only [plOk]; split
  ·rename_i fs hfs; exact fun h=>⟨fs,hfs,h⟩
  ·simp
 have hplace:∀ i off,fOff X.P t i=some off->((fs.toList.map fun f=>(f.offset,szOf X.P f.type)).toArray[i]?)=some (off,szOf X.P (fTy X.P t i)):=by
  intro i off ho
  simp only [fOff,hu] at ho
  cases hx:fs[i]? with
  | none=>simp [hx] at ho
  | some x =>
   simp only [hx,Option.some.injEq] at ho
   simp [fTy,hu,hx,ho]
 obtain ⟨arr,ha,hrel⟩:=fill_ok hR hf hplace parts.toList zs cs z.cells hr h
 refine ⟨.agg arr,run_build w t _ arr ?_,arr.toList,by simp,hrel⟩
 simp only [Program.built,hi,hu,hzz,places_ok _ hpl]
 rw [← ha,Array.toList_map]
theorem opnd_ok {S:St} {a:Act} (hT:∀ t av,lk S.tm t=some av->RelA M γ av (a.tmps.getD t undef)) (p:List (Nat×Bool))
  (hp:∀ t p' q v,lk S.tm t=some (.g p' q v)->isPre p' p=true->q=true) (ty:TypeId) (o:Operand):RelA M γ (X.opnd S p ty o) (a.eval o):=by
 cases o with
 | tmp t =>
  simp only [Ctx.opnd,St.get,Act.eval]
  cases h:lk S.tm t with
  | none=>exact trivial
  | some av =>
   have hr:=hT t av h
   cases av with
   | g p' q v =>
    simp only
    cases hi:isPre p' p with
    | true=>simp only [hi]; exact hr.1 (hp t p' q v h hi)
    | false=>simp only [hi]; exact trivial
   | _=>exact hr
 | const v =>
  simp only [Ctx.opnd,Act.eval]
  cases v<;>simp only [Ctx.cst]<;>first | exact trivial | rfl | skip
  rename_i a n c
  cases a<;>try exact trivial
  cases n<;>cases c<;>try exact trivial
  cases hτ:X.elTy ty<;>simp only [hτ]<;>first | exact trivial | rfl
 | func f=>exact ⟨by simp,by simp [Act.eval]⟩
 | global g=>exact trivial
end Go.Soft
namespace Go.Soft
open Go
variable {X:Ctx} {m M:Lk} {γ:Gh} {w:World} {ρ:Operand->Value}
def Pure (X:Ctx) (M:Lk) (γ:Gh) (w:World) (ρ:Operand->Value) (o:Oper) (v:AV):Prop :=
 ∃ u,(Go.execOp ρ o).run X.P w= .ok (.value u) w/\RelA M γ v u
theorem Pure.of {o:Oper} {v:AV} {s:Sem Value} (he:Go.execOp ρ o=(do let x←s; pure (.value x))) (h:∃ u,s.run X.P w= .ok u w/\RelA M γ v u):Pure X M γ w ρ o v:=by
 obtain ⟨u,hu,hr⟩:=h
 exact ⟨u,by rw [he,Sem.run_bind,hu]; rfl,hr⟩
theorem hasOut_r {c:Bool} {v v':AV} (h:Good (.r c v') v):c=true/\v'=v:=by
 simpa [Good] using h
theorem hasOut_r0 {v v':AV} (h:Good (.r0 v') v):v'=v:=by
 simpa [Good] using h
theorem not_no {v:AV} (h:Good .no v):False:=by simp [Good] at h
theorem bin_step (hX:CtxOk X) {op:BinOp} {t:TypeId} {x y:AV} {xo yo:Operand} {xv yv:Value} {v:AV} (hx:RelA M γ x xv) (hy:RelA M γ y yv)
  (h:Good (X.binT op t x y) v) :
  ∃ u,(do eqGuard op t xo yo xv yv; Go.binOp op t xv yv:Sem Value).run X.P w= .ok u w/\RelA M γ v u:=by
 cases x with
 | c x =>
  cases x with
  | b a =>
   have hx:xv= .bool a:=hx
   subst hx
   simp only [Ctx.binT] at h
   cases ht:X.P.underlying t with
   | none=>simp [ht,Good] at h
   | some d=>cases d<;>first | exact bool_ok ht hy (by simpa [ht] using h) | (simp [ht,Good] at h)
  | i k a =>
   have hx:xv= .int k a:=hx
   subst hx
   simp only [Ctx.binT] at h
   cases y with
   | c y =>
    cases y with
    | i k' b =>
     have hy:yv= .int k' b:=hy
     subst hy
     cases hk:kEq k k' with
     | true=>have:=kEq_eq hk; subst this; exact int_ok h
     | false=>exact shift_ok hk h
    | _=>simp [binO,Good] at h
   | _=>simp [binO,Good] at h
  | s a =>
   have hx:xv= .string a:=hx
   subst hx
   simp only [Ctx.binT] at h
   cases y with
   | c y =>
    cases y with
    | s b=>have hy:yv= .string b:=hy; subst hy; exact str_ok h
    | _=>simp [binO,Good] at h
   | _=>simp [binO,Good] at h
  | _=>simp [Ctx.binT,binO,Good] at h
 | a l =>
  simp only [Ctx.binT] at h
  cases ht:lk X.eqs t with
  | none=>rw [ht] at h; simp [Good] at h
  | some ks =>
   cases y with
   | a m =>
    simp only [ht] at h
    cases hk:sameKs ks l&&sameKs ks m with
    | false=>rw [hk] at h; simp [Good] at h
    | true =>
     rw [hk] at h
     simp only [Bool.and_eq_true] at hk
     exact agg_ok hX ht hk.1 (fun m' e=>by cases e; exact hk.2) hx hy h
   | _=>simp [ht,Good] at h
 | _=>simp [Ctx.binT,binO,Good] at h
theorem int_inv {x:AV} {v:Value} {n:Int} (hx:RelA M γ x v) (h:x.int=some n):∃ k,v= .int k n:=by
 cases x with
 | c y=>cases y<;>simp [AV.int] at h; subst h; exact ⟨_,hx⟩
 | _=>simp [AV.int] at h
theorem byte_cells (xs:List UInt8):fcells .byte xs=xs.map (Value.int .u8∘fun x=>(x.toNat:Int)):=by
 induction xs with
 | nil=>rfl
 | cons x xs ih=>simp only [fcells,List.flatMap_cons] at ih ⊢; rw [ih]; rfl
theorem byte_fold (xs:List UInt8):(xs.map fun x=>(x.toNat:Int)).foldl (fun r n=>r.push (UInt8.ofNat n.toNat)) ByteArray.empty=⟨xs.toArray⟩:=by
 have:∀ (xs:List UInt8) (acc:List UInt8),(xs.map fun x=>(x.toNat:Int)).foldl (fun (r:ByteArray) n=>r.push (UInt8.ofNat n.toNat)) ⟨acc.toArray⟩=⟨(acc++xs).toArray⟩:=by
  intro xs
  induction xs with
  | nil=>intro acc; simp
  | cons x xs ih =>
   intro acc
   have h1:(ByteArray.push ⟨acc.toArray⟩ (UInt8.ofNat ((x.toNat:Int)).toNat))=⟨(acc++[x]).toArray⟩:=by
    simp [ByteArray.push]
   rw [List.map_cons,List.foldl_cons,h1,ih]
   simp
 exact this xs []
theorem bytes_ok (hm:Le m M) (hR:Rel X M γ w) {a:Cv} {av:Value} (ha:RelC M γ a av) {xs:List UInt8} (h:bytesOf (m.vw a)=some xs) :
  (Conv.bytesToString av).run X.P w= .ok (.string ⟨xs.toArray⟩) w:=by
 have hct:(m.vw a).ct=some (.l .byte xs):=by
  revert h; cases hv:m.vw a with
  | no=>simp [bytesOf]
  | w τ ys=>cases τ<;>simp [bytesOf,Vw.ct]
  | p τ ys off len=>cases τ<;>simp [bytesOf,Vw.ct]
 obtain ⟨⟨cs,hvis⟩,_⟩:=vw_vis hm hR ha hct
 have hfl:=hvis.flat rfl
 rcases hvis.top.2 with ⟨rfl,h0⟩ | ⟨g,o,cap,cur,e,fz,rfl,hg,_,_,hsz,ht⟩
 ·cases xs with
  | nil=>rfl
  | cons=>simp at h0
 ·have hcs:cs=(xs.map fun x=>(x.toNat:Int)).map (Value.int .u8):=by
   rw [hfl,List.map_map]; exact byte_cells xs
  have hload:=run_loadCells_list (P:=X.P) w ⟨g,o,none⟩ cs (fun j v hj=>by rw [Addr_add]; exact hvis.top.cell rfl hj)
  have hl:cs.length=xs.length:=by rw [hcs]; simp
  rw [hl] at hload
  rw [run_bytesToString w ⟨g,o,none⟩ xs.length cap _ (hcs▸hload)]
  congr 2
  exact byte_fold xs
theorem conv_ok (hm:Le m M) (hR:Rel X M γ w) {t u:TypeId} {x:AV} {xv:Value} {v:AV} (hx:RelA M γ x xv) (h:Good (X.convO m t u x) v) :
  ∃ y,(convert t u xv).run X.P w= .ok y w/\RelA M γ v y:=by
 simp only [Ctx.convO] at h
 revert h; split
 ·rename_i _ _ _ dt k k' n ht hu
  intro h; have:=hasOut_r0 h; subst this
  have hx:xv= .int _ _:=hx
  subst hx
  exact ⟨_,conv_int_ok (du:=dt) ht hu,rfl⟩
 ·rename_i _ _ _ e a ht hu
  split
  ·rename_i xs hb he
   intro h; have:=hasOut_r0 h; subst this
   have hr:=RelA.to hx (by rintro rfl; simp [Lk.vw,bytesOf] at hb)
   obtain ⟨n,hlen⟩:∃ n,(m.vw a).len=some n:=by
    revert hb; cases m.vw a with
    | no=>simp [bytesOf]
    | w τ ys=>exact fun _=>⟨_,rfl⟩
    | p τ ys off len=>exact fun _=>⟨_,rfl⟩
   obtain ⟨a',cap,rfl⟩:=(vw_slcV hm hR hr hlen).slice
   refine ⟨_,?_,rfl⟩
   rw [run_convert_bytes_string w t u e _ _ _ ht he hu]
   exact bytes_ok hm hR hr hb
  ·exact fun h=>(not_no h).elim
 ·exact fun h=>(not_no h).elim
theorem caps_ok {f:Operand->AV} (hf:∀ o,RelA M γ (f o) (ρ o)):∀ (l:List Operand) (vs:List Nat),capsOf f l=some vs ->
  l.map ρ=vs.map (fun k=>Value.pointer (some ⟨γ.vb k,0,none⟩))/\∀ k∈vs,∃ cs,M.v k=some cs
 | [],vs,h=>by simp only [capsOf,Option.some.injEq] at h; subst h; simp
 | o::l,vs,h=>by
  simp only [capsOf] at h
  revert h; split
  ·rename_i v r hv hr
   intro h; cases h
   obtain ⟨h1,h2⟩:=caps_ok hf l r hr
   have:=hf o; rw [hv] at this
   obtain ⟨h3,h4⟩:=this
   simp [h1,h4,h3]
   exact h2
  ·simp
theorem run_max2 {k:IntKind} (a b:Int):(Builtin.max2 (.int k a) (.int k b)).run X.P w= .ok (.int k (max a b)) w:=by
 simp only [Builtin.max2]
 show Result.ok _ _=_
 congr 2; split<;>omega
theorem run_min2 {k:IntKind} (a b:Int):(Builtin.min2 (.int k a) (.int k b)).run X.P w= .ok (.int k (min a b)) w:=by
 simp only [Builtin.min2]
 show Result.ok _ _=_
 congr 2; split<;>omega
theorem optI_ok {f:Operand->AV} (hf:∀ o,RelA M γ (f o) (ρ o)) {lo:Option Operand} {l:Option Int} (h:optI f lo=some l):∃ k,lo.map ρ=l.map (Value.int k):=by
 cases lo with
 | none=>simp only [optI,Option.some.injEq] at h; subst h; exact ⟨.i64,rfl⟩
 | some o =>
  simp only [optI] at h
  cases hi:(f o).int with
  | none=>simp [hi] at h
  | some n =>
   simp only [hi,Option.some.injEq] at h; subst h
   obtain ⟨k,hk⟩:=int_inv (hf o) hi
   exact ⟨k,by simp [hk]⟩
theorem app_not {m:Lk} {τ:Ty} {d:Nat} {x y:Cv} {v:AV}:¬ Good (m.append τ d x y) v:=by
 intro h
 simp only [Lk.append] at h
 repeat' (first | (split at h) | (simp [Good] at h; done))
theorem store_not {m:Lk} {x:Cv} {l:List Cv} {v:AV}:¬ Good (m.store x l) v:=by
 intro h
 simp only [Lk.store] at h
 repeat' (first | (split at h) | (simp [Good] at h; done))
theorem mm_inv {f:Int->Int->Int} {x y:AV} {xv yv:Value} {v:AV} (hx:RelA M γ x xv) (hy:RelA M γ y yv) (h:Good (mmO f x y) v) :
  ∃ k a b,xv= .int k a/\yv= .int k b/\v= .c (.i k (f a b)):=by
 revert h; simp only [mmO]; split
 ·rename_i k a k' b
  split
  ·rename_i hk
   have hk:=kEq_eq hk; subst hk
   exact fun h=>⟨k,a,b,hx,hy,(hasOut_r0 h).symm⟩
  ·exact fun h=>(not_no h).elim
 ·exact fun h=>(not_no h).elim
theorem len_ok (hm:Le m M) (hR:Rel X M γ w) {t ty:TypeId} {x:AV} {xv:Value} {v:AV} (hx:RelA M γ x xv) (h:Good (X.lenO m t x) v) :
  ∃ u,(Builtin.len_ #[t] ty #[xv]).run X.P w= .ok u w/\RelA M γ v u:=by
 have gen:∀ a,RelC M γ a xv->Good (lenN (isSlc X.P t) (m.vw a).len) v->∃ u,(Builtin.len_ #[t] ty #[xv]).run X.P w= .ok u w/\RelA M γ v u:=by
  intro a hr h
  cases hl:(m.vw a).len with
  | none=>simp [hl,lenN,Good] at h
  | some n =>
   rw [hl] at h
   cases hs:isSlc X.P t with
   | false=>rw [hs] at h; exact (not_no h).elim
   | true =>
    rw [hs] at h
    have:=hasOut_r0 h; subst this
    obtain ⟨b,cap,rfl⟩:=(vw_slcV hm hR hr hl).slice
    exact ⟨_,len_slc hs,rfl⟩
 cases x with
 | c a =>
  cases a with
  | s a =>
   have hx:xv= .string a:=hx
   subst hx
   cases hs:isStr X.P t with
   | false=>simp [Ctx.lenO,hs,Good] at h
   | true =>
    simp only [Ctx.lenO,hs] at h
    have:=hasOut_r0 h; subst this
    exact ⟨_,len_str hs,rfl⟩
  | un=>simp [Ctx.lenO,Lk.vw,Vw.len,lenN,Good] at h
  | _=>exact gen _ hx h
 | _=>simp [Ctx.lenO,Good] at h
theorem pure_ok (hX:CtxOk X) (hm:Le m M) (hR:Rel X M γ w) {evp:List (Nat×Bool)->TypeId->Operand->AV} (hev:∀ ty x,RelA M γ (evp [] ty x) (ρ x))
  (hpk:∀ ty t x a b,evp [] ty (.tmp t)= .c (.b x)->(x=true->RelA M γ (evp [(t,true)] ty a) (ρ a))/\(x=false->RelA M γ (evp [(t,false)] ty b) (ρ b)))
  {d:Nat} {o:Oper} {v:AV} (h:Good (stepO X evp m d o.type o.op) v):Pure X M γ w ρ o v:=by
 obtain ⟨dst,op,type,pos,aft,guard⟩:=o
 simp only at h
 cases op with
 | move x =>
  simp only [stepO] at h; have:=hasOut_r0 h; subst this
  exact ⟨_,rfl,hev _ _⟩
 | assign x =>
  simp only [stepO] at h; have:=hasOut_r0 h; subst this
  exact ⟨_,rfl,hev _ _⟩
 | pick c a b =>
  cases c with
  | tmp t =>
   simp only [stepO] at h
   cases hc:evp [] type (.tmp t) with
   | c y =>
    cases y with
    | b x =>
     simp only [hc] at h
     have:=hasOut_r0 h; subst this
     have hb:=hev type (.tmp t); rw [hc] at hb
     have hb:ρ (.tmp t)= .bool x:=hb
     obtain ⟨h1,h2⟩:=hpk type t x a b hc
     refine ⟨bif x then ρ a else ρ b,by simp only [Go.execOp,Sem.run_bind,hb,asBool,Sem.run_pure,Result.andThen_ok]; cases x<;>rfl,?_⟩
     cases hu:evp [(t,true)] type a with
     | c u =>
      cases u with
      | b p =>
       cases hv:evp [(t,false)] type b with
       | c v =>
        cases v with
        | b q =>
         rw [hu] at h1; rw [hv] at h2
         cases x with
         | true=>exact h1 rfl
         | false=>exact h2 rfl
        | _=>exact trivial
       | _=>exact trivial
      | _=>exact trivial
     | _=>exact trivial
    | _=>simp [hc,Good] at h
   | _=>simp [hc,Good] at h
  | _=>simp [stepO,Good] at h
 | build t parts =>
  simp only [stepO] at h
  cases hz:X.zero t with
  | none=>simp [hz,Good] at h
  | some zs =>
   cases hp:plOk X.P t with
   | false=>simp [hz,hp,Good] at h
   | true =>
    cases hf:fillP X t (evp [] type) parts.toList zs with
    | none=>simp [hz,hp,hf,Good] at h
    | some cs =>
     simp only [hz,hp,hf] at h
     have:=hasOut_r0 h; subst this
     exact Pure.of rfl (build_ok hR (hev type) hz hp hf)
 | load t x =>
  simp only [stepO] at h
  cases hx:evp [] type x with
  | c a =>
   simp only [hx] at h
   cases hfr:m.from a with
   | none=>simp [hfr,Good] at h
   | some cs =>
    simp only [hfr] at h
    cases hz:Nat.ble (szOf X.P t) cs.length&&ldOk X.P t with
    | false=>simp [hz,Good] at h
    | true =>
     simp only [hz] at h
     have:=hasOut_r0 h; subst this
     simp only [Bool.and_eq_true] at hz
     have hr:=hev type x; rw [hx] at hr
     exact Pure.of rfl (load_ok hm hR (RelA.to hr (by rintro rfl; simp [Lk.from] at hfr)) hfr hz.1 hz.2)
  | _=>simp [hx,Good] at h
 | nilCheck x =>
  simp only [stepO] at h
  have hr:=hev type x
  cases hx:evp [] type x with
  | c a =>
   rw [hx] at hr
   simp only [hx] at h
   cases a with
   | pv k c =>
    have:=hasOut_r0 h; subst this
    obtain ⟨h1,h2⟩:=hr
    exact ⟨ρ x,by simp only [Go.execOp,h2]; rfl,h1,h2⟩
   | pe r e c =>
    have:=hasOut_r0 h; subst this
    have hr':=hr
    obtain ⟨row,h1,h2,g,oo,n,cap,h3,h4⟩:=hr
    exact ⟨ρ x,by simp only [Go.execOp,h4]; rfl,hr'⟩
   | pn r e c k d =>
    have:=hasOut_r0 h; subst this
    have hr':=hr
    obtain ⟨row,τ,ys,u,h1,h2,h3,h4,h5,g,oo,n,cap,h6,h7⟩:=hr
    exact ⟨ρ x,by simp only [Go.execOp,h7]; rfl,hr'⟩
   | _=>simp [Good] at h
  | _=>simp [hx,Good] at h
 | binOp op t x y c =>
  simp only [stepO] at h
  exact Pure.of rfl (bin_step hX (hev t x) (hev t y) h)
 | unOp op t x =>
  simp only [stepO] at h
  exact Pure.of rfl (unOp_ok (hev t x) h)
 | convert t u x =>
  simp only [stepO] at h
  exact Pure.of rfl (conv_ok hm hR (hev t x) h)
 | makeFunc fn first caps =>
  cases fn with
  | func f =>
   simp only [stepO] at h
   cases hs:first.size with
   | succ n=>simp [hs,Good] at h
   | zero =>
    cases hc:capsOf (evp [] type) caps.toList with
    | none=>simp [hs,hc,Good] at h
    | some vs =>
     simp only [hs,hc] at h
     have:=hasOut_r0 h; subst this
     obtain ⟨h1,h2⟩:=caps_ok (hev type) _ _ hc
     have h0:first= #[]:=Array.eq_empty_of_size_eq_zero hs
     subst h0
     refine Pure.of rfl ⟨_,rfl,h2,?_⟩
     have e:caps.map ρ=(vs.map fun k=>Value.pointer (some ⟨γ.vb k,0,none⟩)).toArray:=by
      rw [← h1]
      apply Array.toList_inj.1
      rw [Array.toList_map]
     rw [e]; first | rfl | simp | (congr 1)
  | _=>simp [stepO,Good] at h
 | slice t x lo hi mx =>
  simp only [stepO] at h
  cases mx with
  | some _=>simp [Good] at h
  | none =>
   cases hl:optI (evp [] type) lo with
   | none=>simp [hl,Good] at h
   | some l =>
    cases hh:optI (evp [] type) hi with
    | none=>simp [hl,hh,Good] at h
    | some hb =>
     simp only [hl,hh] at h
     cases hc:m.cutOk X.P t (evp [] t x) with
     | false=>simp [hc,Good] at h
     | true =>
      simp only [hc] at h
      obtain ⟨k1,e1⟩:=optI_ok (hev type) hl
      obtain ⟨k2,e2⟩:=optI_ok (hev type) hh
      obtain ⟨u,hu,hr⟩:=slice_ok hm hR (hev t x) (kl:=k1) (kh:=k2) hc h
      exact Pure.of rfl ⟨u,by rw [e1,e2]; exact hu,hr⟩
 | fieldAddr t x f =>
  simp only [stepO] at h
  cases hx:evp [] type x with
  | c a =>
   cases hf:fOff X.P t f with
   | none=>simp [hx,hf,Good] at h
   | some n =>
    cases hz:Nat.beq (szOf X.P (fTy X.P t f)) 0 with
    | true=>simp only [hx,hf,hz] at h; exact (not_no h).elim
    | false =>
     simp only [hx,hf,hz] at h
     have hr:=hev type x; rw [hx] at hr
     have hun:addO a n≠ .un:=by intro e; rw [e] at h; exact (not_no h).elim
     have hv:v= .c (addO a n):=by
      revert h; split
      ·exact fun h=>(not_no h).elim
      ·exact fun h=>(hasOut_r0 h).symm
     subst hv
     obtain ⟨u,hu,hr'⟩:=field_ok (RelA.to hr (by rintro rfl; simp [addO] at hun)) hf hz hun
     exact Pure.of rfl ⟨u,hu,RelA.of hr'⟩
  | _=>simp [hx,Good] at h
 | field t x f =>
  simp only [stepO] at h
  cases hx:evp [] t x with
  | a l =>
   cases hf:fOff X.P t f with
   | none=>simp [hx,hf,Good] at h
   | some n =>
    simp only [hx,hf] at h
    cases hz:Nat.ble (n+szOf X.P (fTy X.P t f)) l.length&&ldOk X.P (fTy X.P t f) with
    | false=>simp [hz,Good] at h
    | true =>
     simp only [hz] at h
     have:=hasOut_r0 h; subst this
     simp only [Bool.and_eq_true] at hz
     have hr:=hev t x; rw [hx] at hr
     exact Pure.of rfl (field_val hr hf hz.1 hz.2)
  | _=>simp [hx,Good] at h
 | indexAddr t x i =>
  simp only [stepO] at h
  cases hx:evp [] t x with
  | c a =>
   cases hi:(evp [] type i).int with
   | none=>simp [hx,hi,Good] at h
   | some n =>
    simp only [hx,hi] at h
    obtain ⟨k,hk⟩:=int_inv (hev type i) hi
    have hr:=hev t x; rw [hx] at hr
    obtain ⟨u,hu,hr'⟩:=index_ok hm hR (k:=k) (RelA.to hr (by rintro rfl; simp [Lk.indexA,Good] at h)) h
    exact Pure.of rfl ⟨u,by rw [hk]; exact hu,hr'⟩
  | _=>simp [hx,Good] at h
 | index t x i =>
  simp only [stepO] at h
  cases hx:evp [] t x with
  | c a =>
   cases a with
   | s a =>
    cases hi:(evp [] type i).int with
    | none=>simp [hx,hi,Good] at h
    | some n =>
     simp only [hx,hi] at h
     cases hs:isStr X.P t with
     | false=>simp [hs,Good] at h
     | true =>
      simp only [hs] at h
      obtain ⟨h1,rfl⟩:=hasOut_r h
      obtain ⟨k,hk⟩:=int_inv (hev type i) hi
      have hr:=hev t x; rw [hx] at hr
      have hr:ρ x= .string a:=hr
      exact Pure.of rfl ⟨_,by rw [hk,hr]; exact index_str hs h1,rfl⟩
   | _=>simp [hx,Good] at h
  | _=>simp [hx,Good] at h
 | extract x i =>
  simp only [stepO] at h
  cases hx:evp [] type x with
  | t l =>
   simp only [hx] at h
   cases hn:nth l i with
   | none=>simp [hn,Good] at h
   | some p =>
    obtain ⟨b,cs⟩:=p
    simp only [hn] at h
    have:=hasOut_r0 h; subst this
    have hr:=hev type x; rw [hx] at hr
    exact Pure.of rfl (extract_ok hr hn)
  | _=>simp [hx,Good] at h
 | call c =>
  obtain ⟨callee,args,argTypes⟩:=c
  cases callee with
  | builtin b =>
   simp only [stepO] at h
   revert h; split
   ·rename_i x t ha ht
    intro h
    have ha':args= #[x]:=Array.toList_inj.1 ha
    have ht':argTypes= #[t]:=Array.toList_inj.1 ht
    subst ha'; subst ht'
    obtain ⟨u,hu,hr⟩:=len_ok (ty:=type) hm hR (hev t x) h
    refine ⟨u,?_,hr⟩
    simp only [Go.execOp,resolve,invoke,Sem.run_bind,Sem.run_pure,Result.andThen_ok,builtin,List.map_toArray,List.map,hu]
   ·intro h
    exfalso
    revert h; simp only [Ctx.appO]; split
    ·exact app_not
    ·exact not_no
   ·intro h
    exfalso
    revert h; simp only [Ctx.clearO]; split
    ·split
     ·split
      ·simp [Good]
      ·exact not_no
     ·exact not_no
    ·exact not_no
   ·intro h
    exfalso
    revert h; simp only [Ctx.copyO]; repeat' split
    all_goals simp [Good]
   ·rename_i tys x y ha
    intro h
    have ha':args= #[x,y]:=Array.toList_inj.1 ha
    subst ha'
    obtain ⟨k,a,b,e1,e2,rfl⟩:=mm_inv (hev type x) (hev type y) h
    refine ⟨_,?_,rfl⟩
    simp only [Go.execOp,resolve,invoke,Sem.run_bind,Sem.run_pure,Result.andThen_ok,builtin,List.map_toArray,List.map,e1,e2,Builtin.max_]
    show (Result.andThen (Sem.run X.P (List.foldlM Builtin.max2 (.int k a) [.int k b]) w) _)=_
    simp only [List.foldlM,Sem.run_bind,run_max2,Result.andThen_ok,Sem.run_pure]
   ·rename_i tys x y ha
    intro h
    have ha':args= #[x,y]:=Array.toList_inj.1 ha
    subst ha'
    obtain ⟨k,a,b,e1,e2,rfl⟩:=mm_inv (hev type x) (hev type y) h
    refine ⟨_,?_,rfl⟩
    simp only [Go.execOp,resolve,invoke,Sem.run_bind,Sem.run_pure,Result.andThen_ok,builtin,List.map_toArray,List.map,e1,e2,Builtin.min_]
    show (Result.andThen (Sem.run X.P (List.foldlM Builtin.min2 (.int k a) [.int k b]) w) _)=_
    simp only [List.foldlM,Sem.run_bind,run_min2,Result.andThen_ok,Sem.run_pure]
   ·exact fun h=>(not_no h).elim
  | value f=>simp [stepO,Good] at h
  | invoke r n=>simp [stepO,Good] at h
 | alloc t=>simp only [stepO] at h; revert h; split<;>simp [Good]
 | box t x=>simp only [stepO] at h; revert h; split<;>(try split)<;>simp [Good]
 | store t x y=>simp only [stepO] at h; revert h; split<;>(try split)<;>first | (exact fun h=>(store_not h).elim) | simp [Good]
 | buildSlice t n ps =>
  exfalso; simp only [stepO] at h
  repeat' (first | (split at h) | (exact not_no h) | (simp [Good] at h; done))
 | makeSlice t n c =>
  exfalso; simp only [stepO] at h
  repeat' (first | (split at h) | (exact not_no h) | (simp [Good] at h; done))
 | _=>simp [stepO,Good] at h
end Go.Soft
namespace Go.Soft
open Go
variable {X:Ctx} {m M:Lk} {γ γ':Gh} {w w':World} {ρ:Operand->Value} {S:St} {δ:Dl}
theorem lk_put {α:Type} (l:List (Nat×α)) (n:Nat) (v:α) (k:Nat):lk (put l n v) k=if n=k then some v else lk l k:=by
 have hrep:∀ l:List (Nat×α),lk (repK n v l) k=if n=k then (lk l n).map (fun _=>v) else lk l k:=by
  intro l
  induction l with
  | nil=>simp [repK,lk]
  | cons p l ih =>
   obtain ⟨j,u⟩:=p
   simp only [repK]
   by_cases hjn:j=n
   ·subst hjn
    rw [show Nat.beq j j=true from Nat.beq_refl j]
    simp only [lk]
    by_cases hjk:j=k
    ·subst hjk; simp [Nat.beq_refl]
    ·rw [show Nat.beq j k=false by cases h:Nat.beq j k; rfl; exact absurd (nat_beq h) hjk]
     simp only [ih,hjk,if_false]
   ·rw [show Nat.beq j n=false by cases h:Nat.beq j n; rfl; exact absurd (nat_beq h) hjn]
    simp only [lk]
    rw [show Nat.beq j n=false by cases h:Nat.beq j n; rfl; exact absurd (nat_beq h) hjn]
    by_cases hjk:j=k
    ·subst hjk
     simp [Nat.beq_refl,Ne.symm hjn]
    ·rw [show Nat.beq j k=false by cases h:Nat.beq j k; rfl; exact absurd (nat_beq h) hjk]
     simp only [ih]
 simp only [put]
 cases h:lk l n with
 | none =>
  simp only [lk]
  by_cases hnk:n=k
  ·subst hnk; simp [Nat.beq_refl]
  ·rw [show Nat.beq n k=false by cases h:Nat.beq n k; rfl; exact absurd (nat_beq h) hnk]; simp [hnk]
 | some u=>rw [hrep,h]; rfl
theorem lk_rmv {α:Type} (n:Nat) (l:List (Nat×α)) (k:Nat):lk (rmv n l) k=if n=k then none else lk l k:=by
 induction l with
 | nil=>simp [rmv,lk]
 | cons p l ih =>
  obtain ⟨j,u⟩:=p
  simp only [rmv]
  by_cases hjn:j=n
  ·subst hjn
   rw [show Nat.beq j j=true from Nat.beq_refl j]
   simp only [ih,lk]
   by_cases hjk:j=k
   ·simp [hjk]
   ·rw [show Nat.beq j k=false by cases h:Nat.beq j k; rfl; exact absurd (nat_beq h) hjk]
  ·rw [show Nat.beq j n=false by cases h:Nat.beq j n; rfl; exact absurd (nat_beq h) hjn]
   simp only [lk]
   by_cases hjk:j=k
   ·subst hjk; simp [Nat.beq_refl,Ne.symm hjn]
   ·rw [show Nat.beq j k=false by cases h:Nat.beq j k; rfl; exact absurd (nat_beq h) hjk]; exact ih
def lkZ {α:Type}:List (Nat×α)->Nat->Option α
 | [],_=>none
 | (k,v)::l,n=>match lkZ l n with
  | some u=>some u
  | none=>if k=n then some v else none
theorem lk_asgV (m:List (Nat×List Cv)):∀ (l:List (Nat×List Cv)) (k:Nat),lk (asgV l m) k=match lkZ m k with | some cs=>some cs | none=>lk l k:=by
 induction m with
 | nil=>intro l k; rfl
 | cons p m ih =>
  obtain ⟨j,cs⟩:=p
  intro l k
  simp only [asgV,ih,lkZ,lk_put]
  cases lkZ m k with
  | some u=>rfl
  | none=>by_cases h:j=k<;>simp [h]
theorem lk_asgR (m:List (Nat×Option Row)):∀ (l:List (Nat×Row)) (k:Nat),lk (asgR l m) k=match lkZ m k with | some r=>r | none=>lk l k:=by
 induction m with
 | nil=>intro l k; rfl
 | cons p m ih =>
  obtain ⟨j,r⟩:=p
  intro l k
  cases r with
  | none =>
   simp only [asgR,ih,lkZ,lk_rmv]
   cases lkZ m k with
   | some u=>rfl
   | none=>by_cases h:j=k<;>simp [h]
  | some r =>
   simp only [asgR,ih,lkZ,lk_put]
   cases lkZ m k with
   | some u=>rfl
   | none=>by_cases h:j=k<;>simp [h]
theorem map_quiet (h:δ.quiet=true) (x:Cv):δ.map x=x:=by
 obtain ⟨mv,kr,ke,kn,kv,rs,vs⟩:=δ
 have:mv=[]/\kr=[]/\ke=[]/\kn=[]/\kv=[]:=by
  revert h; simp only [Dl.quiet]; split<;>simp_all
 obtain ⟨rfl,rfl,rfl,rfl,rfl⟩:=this
 have any:∀ l:List Nat,anyN l []=false:=by intro l; induction l with | nil=>rfl | cons a l ih=>simp [anyN,hasN,ih]
 cases x<;>simp [Dl.map,hasN,lk,any]
theorem mapV_id {f:Cv->Cv} (h:∀ x,f x=x) (v:AV):mapV f v=v:=by
 have hl:∀ l:List Cv,l.map f=l:=fun l=>by rw [show f=id from funext h]; simp
 induction v with
 | c x=>simp [mapV,h]
 | a l=>simp [mapV,hl]
 | t l=>simp [mapV,hl]
 | g p q v ih=>simp [mapV,ih]
theorem app_r (S:St) (δ:Dl) (k:Nat):(S.app δ).lk.r k=match lkZ δ.rs k with | some r=>r | none=>S.lk.r k:=by
 simp only [St.app,St.lk]
 cases δ.quiet<;>simp only [lk_asgR]
theorem app_v (S:St) (δ:Dl) (k:Nat):(S.app δ).lk.v k=match lkZ δ.vs k with | some cs=>some cs | none=>(S.lk.v k).map (List.map δ.map):=by
 simp only [St.app,St.lk]
 cases h:δ.quiet with
 | true =>
  simp only [lk_asgV]
  cases lkZ δ.vs k with
  | some cs=>rfl
  | none =>
   have:(List.map δ.map)=(id:List Cv->List Cv):=by
    rw [show δ.map=id from funext (map_quiet h)]; exact funext fun l=>by simp
   simp [this]
 | false =>
  simp only [lk_asgV,lk_map]
theorem app_t (S:St) (δ:Dl) (t:Nat):lk (S.app δ).tm t=(lk S.tm t).map (mapV δ.map):=by
 simp only [St.app]
 cases h:δ.quiet with
 | true =>
  have:mapV δ.map=id:=funext fun v=>mapV_id (map_quiet h) v
  simp [this]
 | false=>simp only [lk_map]
structure Step (X:Ctx) (S:St) (γ:Gh) (w:World) (δ:Dl) (γ':Gh) (w':World):Prop where
 rel:Rel X (S.app δ).lk γ' w'
 keep:∀ x v,RelC S.lk γ x v->RelC (S.app δ).lk γ' (δ.map x) v
 fr:Fr γ.O w γ'.O w'
 kp:∀ k row,lkZ δ.rs k=none->S.lk.r k=some row->γ'.rv k=γ.rv k/\γ'.cv k=γ.cv k
 k1:∀ k row,lkZ δ.rs k=some (some row)->row.ow=1->k<100000
 io:∀ k,200000<=k->k<300000->γ'.rv k=γ.rv k
 vb:∀ k,k<1000->γ'.vb k=γ.vb k
 vk:∀ k cs,S.lk.v k=some cs->lkZ δ.vs k=none->γ'.vb k=γ.vb k/\γ'.O (γ.vb k)=some (.v k)/\w'.heap[γ.vb k]? =w.heap[γ.vb k]?
theorem Fr.trans {O0:OM} {w0:World} {O O':OM} {w w':World} (h:Fr O0 w0 O w) (h':Fr O w O' w'):Fr O0 w0 O' w' :=
 ⟨h'.os.trans h.os,h'.tape.trans h.tape,h'.output.trans h.output,Nat.le_trans h.size h'.size,
  fun g hg ho=>by
   obtain ⟨h1,h2⟩:=h.blk g hg ho
   obtain ⟨h3,h4⟩:=h'.blk g (Nat.lt_of_lt_of_le hg h.size) (by rw [h1]; exact ho)
   exact ⟨h3.trans h1,h4.trans h2⟩,h'.top⟩
theorem RelL.map {m':Lk} {f:Cv->Cv} (hk:∀ x v,RelC M γ x v->RelC m' γ' (f x) v) {l:List Cv} {u:List Value} (h:RelL M γ l u):RelL m' γ' (l.map f) u:=by
 induction h with
 | nil=>exact .nil
 | cons hx hl ih=>exact .cons (hk _ _ hx) ih
theorem RelP.map {m':Lk} {f:Cv->Cv} (hk:∀ x v,RelC M γ x v->RelC m' γ' (f x) v) {p:Bool×List Cv} {u:Value} (h:RelP M γ p u):RelP m' γ' (p.1,p.2.map f) u:=by
 obtain ⟨us,h1,h2,h3⟩:=h
 exact ⟨us,h1.map hk,h2,h3⟩
theorem RelTs.map {m':Lk} {f:Cv->Cv} (hk:∀ x v,RelC M γ x v->RelC m' γ' (f x) v) {l:List (Bool×List Cv)} {u:List Value} (h:RelTs M γ l u):RelTs m' γ' (l.map fun p=>(p.1,p.2.map f)) u:=by
 induction h with
 | nil=>exact .nil
 | cons hx hl ih=>exact .cons (hx.map hk) ih
theorem RelA.map {m':Lk} {f:Cv->Cv} (hk:∀ x v,RelC M γ x v->RelC m' γ' (f x) v) (hu:f .un= .un):∀ {av:AV} {v:Value},RelA M γ av v->RelA m' γ' (mapV f av) v
 | .c x,v,h=>by
  by_cases hx:x= .un
  ·subst hx; simp only [mapV,hu]; exact trivial
  ·exact RelA.of (hk _ _ (RelA.to h hx))
 | .a l,v,⟨us,h1,h2⟩=>⟨us,h1,h2.map hk⟩
 | .t l,v,⟨us,h1,h2⟩=>⟨us,h1,h2.map hk⟩
 | .g p q a,v,⟨h1,h2⟩=>⟨fun hq=>RelA.map hk hu (h1 hq),h2⟩
theorem map_cases (δ:Dl) (x:Cv):δ.map x= .un \/
  (δ.map x=x/\(∀ r,x.row=some r->lk δ.mv r=none/\hasN r δ.kr=false/\((∀ s,x≠ .sw s)->hasN r δ.ke=false)/\(x.inner=true->hasN r δ.kn=false))/\∀ k∈x.vk,hasN k δ.kv=false) \/
  (∃ r d e c,lk δ.mv r=some (d,e,c)/\((x= .sw r/\δ.map x= .nw d e c)\/(∃ o n,x= .sl r o n/\δ.map x= .ns d e c o n)\/∃ k a,x= .pe r k a/\δ.map x= .pn d e c k a)):=by
 have anyF:∀ (l m:List Nat),anyN l m=false->∀ k∈l,hasN k m=false:=by
  intro l m
  induction l with
  | nil=>simp
  | cons a l ih =>
   simp only [anyN]
   cases h:hasN a m with
   | true=>simp
   | false=>intro h' k hk; rcases List.mem_cons.1 hk with rfl | hk; exact h; exact ih h' k hk
 cases x with
 | pv v c=>simp only [Dl.map]; cases h:hasN v δ.kv<;>simp [Cv.row,Cv.vk,h]
 | fn f caps =>
  simp only [Dl.map]; cases h:anyN caps δ.kv with
  | true=>simp
  | false=>right; left; exact ⟨rfl,by simp [Cv.row],fun k hk=>anyF _ _ h k hk⟩
 | sw r =>
  simp only [Dl.map]; cases h:lk δ.mv r with
  | some p=>obtain ⟨d,e,c⟩:=p; right; right; exact ⟨r,d,e,c,h,.inl ⟨rfl,by simp [h]⟩⟩
  | none=>cases h2:hasN r δ.kr<;>simp [Cv.row,Cv.vk,Cv.inner,h,h2]
 | sl r o n =>
  simp only [Dl.map]; cases h:lk δ.mv r with
  | some p=>obtain ⟨d,e,c⟩:=p; right; right; exact ⟨r,d,e,c,h,.inr (.inl ⟨o,n,rfl,by simp [h]⟩)⟩
  | none=>cases h2:hasN r δ.kr<;>cases h3:hasN r δ.ke<;>simp [Cv.row,Cv.vk,Cv.inner,h,h2,h3]
 | pe r k a =>
  simp only [Dl.map]; cases h:lk δ.mv r with
  | some p=>obtain ⟨d,e,c⟩:=p; right; right; exact ⟨r,d,e,c,h,.inr (.inr ⟨k,a,rfl,by simp [h]⟩)⟩
  | none=>cases h2:hasN r δ.kr<;>cases h3:hasN r δ.ke<;>simp [Cv.row,Cv.vk,Cv.inner,h,h2,h3]
 | nw r e c =>
  simp only [Dl.map]; cases h:lk δ.mv r with
  | some p=>simp
  | none=>cases h2:hasN r δ.kr<;>cases h3:hasN r δ.ke<;>cases h4:hasN r δ.kn<;>simp [Cv.row,Cv.vk,Cv.inner,h,h2,h3,h4]
 | ns r e c o n =>
  simp only [Dl.map]; cases h:lk δ.mv r with
  | some p=>simp
  | none=>cases h2:hasN r δ.kr<;>cases h3:hasN r δ.ke<;>cases h4:hasN r δ.kn<;>simp [Cv.row,Cv.vk,Cv.inner,h,h2,h3,h4]
 | pn r e c k d =>
  simp only [Dl.map]; cases h:lk δ.mv r with
  | some p=>simp
  | none=>cases h2:hasN r δ.kr<;>cases h3:hasN r δ.ke<;>cases h4:hasN r δ.kn<;>simp [Cv.row,Cv.vk,Cv.inner,h,h2,h3,h4]
 | _=>simp [Dl.map,Cv.row,Cv.vk]
theorem keep_of (hR:Rel X S.lk γ w) (hmv:δ.mv=[])
  (hw:∀ r row,S.lk.r r=some row->hasN r δ.kr=false->(∃ row',(S.app δ).lk.r r=some row')/\γ'.rv r=γ.rv r)
  (hr:∀ r row row',S.lk.r r=some row->hasN r δ.kr=false->hasN r δ.ke=false->(S.app δ).lk.r r=some row'->row'.τ=row.τ/\row.xs.length<=row'.xs.length)
  (hn:∀ r,hasN r δ.kr=false->hasN r δ.ke=false->hasN r δ.kn=false->KeepN S.lk γ (S.app δ).lk γ' r)
  (hv:∀ k cs,S.lk.v k=some cs->hasN k δ.kv=false->(∃ cs',(S.app δ).lk.v k=some cs')/\γ'.vb k=γ.vb k) :
  ∀ x v,RelC S.lk γ x v->RelC (S.app δ).lk γ' (δ.map x) v:=by
 intro x v hx
 rcases map_cases δ x with h | ⟨h,h1,h2⟩ | ⟨r,d,e,c,h,_⟩
 ·rw [h]; exact hx.one hR
 ·rw [h]
  have hsw:∀ r,x= .sw r->RelC (S.app δ).lk γ' x v:=by
   rintro r rfl
   obtain ⟨⟨row,hrow⟩,rfl⟩:=hx
   obtain ⟨_,h3,_⟩:=h1 r rfl
   obtain ⟨h4,h5⟩:=hw r row hrow h3
   exact ⟨h4,h5.symm⟩
  by_cases hs:∃ r,x= .sw r
  ·obtain ⟨r,rfl⟩:=hs; exact hsw r rfl
  ·have hs':∀ s,x≠ .sw s:=fun s e=>hs ⟨s,e⟩
   have hrow:∀ r,x.row=some r->∃ row,S.lk.r r=some row:=by
    intro r hxr
    cases x<;>simp [Cv.row] at hxr<;>subst hxr
    case sw r=>exact absurd rfl (hs' r)
    case sl=>obtain ⟨row,h,_⟩:=hx; exact ⟨row,h⟩
    case nw=>obtain ⟨row,_,_,h,_⟩:=hx; exact ⟨row,h⟩
    case ns=>obtain ⟨row,_,_,_,h,_⟩:=hx; exact ⟨row,h⟩
    case pe=>obtain ⟨row,h,_⟩:=hx; exact ⟨row,h⟩
    case pn=>obtain ⟨row,_,_,_,h,_⟩:=hx; exact ⟨row,h⟩
   have hvar:∀ k∈x.vk,∃ cs,S.lk.v k=some cs:=by
    intro k hk
    cases x<;>simp [Cv.vk] at hk
    case pv=>subst hk; exact hx.1
    case fn=>exact hx.1 k hk
   refine hx.re (fun r hr'=> ?_) (fun r hr' hi=> ?_) (fun k hk=> ?_)
   ·obtain ⟨_,h3,h4,_⟩:=h1 r hr'
    obtain ⟨row,hrw⟩:=hrow r hr'
    obtain ⟨⟨row',h5⟩,h6⟩:=hw r row hrw h3
    refine ⟨fun row2 h7=> ?_,h6⟩
    rw [hrw] at h7; cases h7
    obtain ⟨h8,h9⟩:=hr r row row' hrw h3 (h4 hs') h5
    exact ⟨row',h5,h8,h9⟩
   ·obtain ⟨_,h3,h4,h5⟩:=h1 r hr'
    exact hn r h3 (h4 hs') (h5 hi)
   ·obtain ⟨cs,hcs⟩:=hvar k hk
    obtain ⟨h3,h4⟩:=hv k cs hcs (h2 k hk)
    exact ⟨fun _ _=>h3,h4⟩
 ·simp [hmv,lk] at h
theorem fam_frame {k:Nat} {row:Row} {v:Value} {cs:List Value} {O O':OM} (h:RowR X O w k row v cs)
  (hf:∀ g o,w.heap[g]? =some o->Fam k (O g)->w'.heap[g]? =some o/\O' g=O g):RowR X O' w' k row v cs:=by
 refine ⟨h.top.re (c':=topC k row.ow) (fun g o hg hi=> ?_) id,fun e c ct he hc=> ?_⟩
 ·obtain ⟨h1,h2⟩:=hf g o hg (In_topC hi); exact ⟨h1,h2▸hi⟩
 ·obtain ⟨u,hu,hr⟩:=h.cel e c ct he hc
  exact ⟨u,hu,hr.re (fun g o hg hi=>by obtain ⟨h1,h2⟩:=hf g o hg (In_nesC hi); exact ⟨h1,h2▸hi⟩) id⟩
theorem lt_of_some {g:Nat} {o:Obj} (h:w.heap[g]? =some o):g<w.heap.size:=(Array.getElem?_eq_some_iff.1 h).1
def updN {α:Type} (f:Nat->α) (k:Nat) (v:α):Nat->α:=fun n=>if n=k then v else f n
def dropV (O:OM) (k:Nat):OM:=fun g=>if O g=some (.v k) then none else O g
theorem fmap_eq {α β:Type} (f:α->β) (l:List α):fmap f l=l.map f:=by
 induction l with
 | nil=>rfl
 | cons x l ih=>simp [fmap,ih]
section newvar
variable (S γ w) (key:Nat) (cs:List Cv)
def nvD:Dl:={ Dl.z with kv:=[key],vs:=[(key,cs)] }
def nvG:Gh:={ γ with O:=updN (dropV γ.O key) w.heap.size (some (.v key)),vb:=updN γ.vb key w.heap.size }
theorem nv_r (k:Nat):(S.app (nvD key cs)).lk.r k=S.lk.r k:=by rw [app_r]; rfl
theorem nv_v (k:Nat):(S.app (nvD key cs)).lk.v k=if key=k then some cs else (S.lk.v k).map (List.map (nvD key cs).map):=by
 rw [app_v]
 show (match (if key=k then some cs else none) with | some cs=>some cs | none=>_)=_
 by_cases h:key=k<;>simp [h]
variable {S γ w}
theorem nv_keep (hR:Rel X S.lk γ w):∀ x v,RelC S.lk γ x v->RelC (S.app (nvD key cs)).lk (nvG γ w key) ((nvD key cs).map x) v:=by
 refine keep_of hR rfl (fun r row h _=>⟨⟨row,by rw [nv_r]; exact h⟩,rfl⟩) (fun r row row' h _ _ h'=> ?_) (fun r _ _ _=>⟨fun row row' h h'=> ?_⟩) (fun k c h hk=> ?_)
 ·rw [nv_r,h] at h'; cases h'; exact ⟨rfl,Nat.le_refl _⟩
 ·rw [nv_r,h] at h'; cases h'
  intro e c τ ys _ hc; exact ⟨⟨ys,hc,Nat.le_refl _⟩,rfl⟩
 ·have hne:¬ key=k:=by
   intro e; subst e; simp [nvD,Dl.z,hasN,Nat.beq_refl] at hk
  exact ⟨⟨c.map (nvD key cs).map,by rw [nv_v,if_neg hne,h]; rfl⟩,by simp [nvG,updN,Ne.symm hne]⟩
theorem nv_step (hkey:1000<=key) (hR:Rel X S.lk γ w) (htop:∀ g,w.heap.size<=g->γ.O g=none) (us:List Value) (e:TypeId) (hu:RelL (S.app (nvD key cs)).lk (nvG γ w key) cs us) :
  Step X S γ w (nvD key cs) (nvG γ w key) (w.alloc (.cells us.toArray e))/\RelC (S.app (nvD key cs)).lk (nvG γ w key) (.pv key 0) (.pointer (some ⟨w.heap.size,0,none⟩)):=by
 have hO:∀ g,g<w.heap.size->γ.O g≠some (.v key)->(nvG γ w key).O g=γ.O g:=by
  intro g hg hne
  simp only [nvG,updN,dropV,Nat.ne_of_lt hg,if_false,hne]
 have hheap:∀ g o,w.heap[g]? =some o->(w.alloc (.cells us.toArray e)).heap[g]? =some o:=fun g o hg=>by
  rw [heap_alloc_old w _ g (lt_of_some hg)]; exact hg
 refine ⟨⟨⟨fun k c hk=> ?_,fun k row hk=> ?_⟩,nv_keep key cs hR,?_,fun _ _ _ _=>⟨rfl,rfl⟩,fun k row h=>(by cases h),fun _ _ _=>rfl,fun k hk=>(by simp [nvG,updN,show k≠key by omega]),fun k cs hk hz=> ?_⟩,?_⟩
 ·rw [nv_v] at hk
  by_cases h:key=k
  ·subst h
   rw [if_pos rfl] at hk; cases hk
   refine ⟨by simp [nvG,updN],us.toArray,e,by rw [show (nvG γ w key).vb key=w.heap.size by simp [nvG,updN]]; exact heap_alloc_new w _,by simpa using hu⟩
  ·rw [if_neg h] at hk
   cases hc:S.lk.v k with
   | none=>simp [hc] at hk
   | some c' =>
    rw [hc] at hk; simp only [Option.map_some,Option.some.injEq] at hk; subst hk
    obtain ⟨h1,cur,e',h2,h3⟩:=hR.vs k c' hc
    have hvb:(nvG γ w key).vb k=γ.vb k:=by simp [nvG,updN,Ne.symm h]
    rw [hvb]
    have hlt:=lt_of_some h2
    refine ⟨by rw [hO _ hlt (by rw [h1]; simp; exact fun e=>h e.symm),h1],cur,e',hheap _ _ h2,h3.map (nv_keep key cs hR)⟩
 ·rw [nv_r] at hk
  refine fam_frame (hR.rs k row hk) fun g o hg hf=>⟨hheap g o hg,hO g (lt_of_some hg) ?_⟩
  rcases hf with h | h | h | ⟨_,_,h⟩<;>rw [h]<;>simp
 ·refine ⟨rfl,rfl,rfl,by simp,fun g hg ho=>⟨hO g hg ?_,heap_alloc_old w _ g hg⟩,fun g hg=> ?_⟩
  ·rcases ho with h | h | h<;>rw [h]<;>simp
  ·simp only [World.size_alloc] at hg
   have h1:g≠w.heap.size:=by omega
   simp only [nvG,updN,dropV,h1,if_false,htop g (by omega)]
   simp
 ·have hne:¬ key=k:=by
   rintro rfl
   simp [nvD,Dl.z,lkZ] at hz
  obtain ⟨h1,cur,e',h2,h3⟩:=hR.vs k cs hk
  have hlt:=lt_of_some h2
  exact ⟨by simp [nvG,updN,Ne.symm hne],by rw [hO _ hlt (by rw [h1]; simp; exact fun e=>hne e.symm),h1],heap_alloc_old w _ _ hlt⟩
 ·exact ⟨⟨cs,by rw [nv_v,if_pos rfl]⟩,by simp [nvG,updN]⟩
end newvar
theorem set_other (w:World) (g:Nat) (cs:Array Value) (k:Nat) (h:k≠g):(w.setRow g cs).heap[k]? =w.heap[k]? :=by
 simp [World.setRow,Array.getElem?_modify,Ne.symm h]
theorem set_same (w:World) (g:Nat) (cs cur:Array Value) (e:TypeId) (fz:Nat×Nat) (h:w.heap[g]? =some (.cells cur e fz)):(w.setRow g cs).heap[g]? =some (.cells cs e fz):=by
 simp [World.setRow,Array.getElem?_modify,h]
theorem store_run {t:TypeId} {v:Value} {g o:Nat} {cur:Array Value} {e:TypeId} (hg:w.heap[g]? =some (.cells cur e (0,0))) (hs:v.cells.size=szOf X.P t) (hp:0<v.cells.size)
  (hle:o+v.cells.size<=cur.size) (h1:∀ u∈v.cells.toList,u.oneCell'=true) :
  (Instr.storeAt t (.pointer (some ⟨g,o,none⟩)) v).run X.P w= .ok () (w.setRow g (Soft.repl cur.toList o v.cells.toList).toArray):=by
 obtain ⟨i,hi,hsz⟩:=szOf_pos hs.symm hp
 simp only [Instr.storeAt,Instr.sureAddr,storeVar,Sem.run_bind,Sem.run_pure,Result.andThen_ok,run_size hi,hsz,ne_eq,not_true_eq_false,if_false]
 rw [run_storeCells_at (P:=X.P) g o e v.cells.toList 0 cur w hg (by simpa using hle) h1]
 simp [Soft.repl]
theorem repl_get_lt {α:Type} (l m:List α) (c i:Nat) (h:i<c) (hc:c<=l.length):(Soft.repl l c m)[i]? =l[i]? :=by
 simp only [Soft.repl,List.append_assoc]
 rw [List.getElem?_append_left (by simp; omega),List.getElem?_take,if_pos h]
theorem repl_get_ge {α:Type} (l m:List α) (c i:Nat) (h:c+m.length<=i) (hc:c+m.length<=l.length):(Soft.repl l c m)[i]? =l[i]? :=by
 simp only [Soft.repl]
 rw [List.getElem?_append_right (by simp; omega),List.getElem?_drop]
 congr 1; simp; omega
theorem repl_get_in {α:Type} (l m:List α) (c j:Nat) (h:j<m.length) (hc:c+m.length<=l.length):(Soft.repl l c m)[c+j]? =m[j]? :=by
 simp only [Soft.repl,List.append_assoc]
 rw [List.getElem?_append_right (by simp; omega),List.getElem?_append_left (by simp; omega)]
 congr 1; simp; omega
section varstore
variable (k c:Nat) (old vl:List Cv)
def vsD:Dl:={ Dl.z with vs:=[(k,Soft.repl old c vl)] }
theorem vs_map (x:Cv):(vsD k c old vl).map x=x:=map_quiet rfl x
theorem vs_r (j:Nat):(S.app (vsD k c old vl)).lk.r j=S.lk.r j:=by rw [app_r]; rfl
theorem vs_v (j:Nat):(S.app (vsD k c old vl)).lk.v j=if k=j then some (Soft.repl old c vl) else S.lk.v j:=by
 rw [app_v]
 show (match (if k=j then some (Soft.repl old c vl) else none) with | some cs=>some cs | none=>_)=_
 have:List.map (vsD k c old vl).map=id:=by rw [show (vsD k c old vl).map=id from funext (vs_map k c old vl)]; exact funext fun l=>by simp
 by_cases h:k=j<;>simp [h,this]
theorem vs_step (hR:Rel X S.lk γ w) (htop:∀ g,w.heap.size<=g->γ.O g=none) {t:TypeId} {v:Value} {av:Value} (ha:RelC S.lk γ (.pv k c) av) (ho:S.lk.v k=some old)
  (hle:c+vl.length<=old.length) (hv:RelL S.lk γ vl v.cells.toList) (hs:vl.length=szOf X.P t) (hp:0<vl.length) :
  ∃ w',(Instr.storeAt t av v).run X.P w= .ok () w'/\Step X S γ w (vsD k c old vl) γ w':=by
 obtain ⟨_,rfl⟩:=ha
 obtain ⟨hO,cur,e,hg,hrel⟩:=hR.vs k old ho
 have hl1:=hv.length
 have hl2:=hrel.length
 simp only [Array.length_toList] at hl1 hl2
 refine ⟨_,store_run hg (by omega) (by omega) (by omega) (hv.one hR),?_⟩
 have keep:∀ x v,RelC S.lk γ x v->RelC (S.app (vsD k c old vl)).lk γ ((vsD k c old vl).map x) v:=by
  refine keep_of hR rfl (fun r row h _=>⟨⟨row,by rw [vs_r]; exact h⟩,rfl⟩) (fun r row row' h _ _ h'=> ?_) (fun r _ _ _=>⟨fun row row' h h'=> ?_⟩) (fun j cs h _=>⟨?_,rfl⟩)
  ·rw [vs_r,h] at h'; cases h'; exact ⟨rfl,Nat.le_refl _⟩
  ·rw [vs_r,h] at h'; cases h'
   intro e c τ ys _ hc; exact ⟨⟨ys,hc,Nat.le_refl _⟩,rfl⟩
  ·rw [vs_v]; by_cases hkj:k=j
   ·exact ⟨_,if_pos hkj⟩
   ·exact ⟨cs,by rw [if_neg hkj]; exact h⟩
 have keep':∀ {l u},RelL S.lk γ l u->RelL (S.app (vsD k c old vl)).lk γ l u:=by
  intro l u h
  have:=h.map keep
  rwa [show l.map (vsD k c old vl).map=l by rw [show (vsD k c old vl).map=id from funext (vs_map k c old vl)]; simp] at this
 have hheap:∀ g,g≠γ.vb k->(w.setRow (γ.vb k) (Soft.repl cur.toList c v.cells.toList).toArray).heap[g]? =w.heap[g]? :=fun g h=>set_other w _ _ g h
 refine ⟨⟨fun j cs hj=> ?_,fun r row hr=> ?_⟩,keep,?_,fun _ _ _ _=>⟨rfl,rfl⟩,fun k row h=>(by cases h),fun _ _ _=>rfl,fun _ _=>rfl,fun j cs hj hz=>⟨rfl,(hR.vs j cs hj).1,hheap _ fun h=> ?_⟩⟩
 ·rw [vs_v] at hj
  by_cases hkj:k=j
  ·subst hkj
   rw [if_pos rfl] at hj; cases hj
   exact ⟨hO,_,e,set_same w _ _ _ _ _ hg,by simpa using keep' (hrel.repl hv c)⟩
  ·rw [if_neg hkj] at hj
   obtain ⟨h1,cur',e',h2,h3⟩:=hR.vs j cs hj
   refine ⟨h1,cur',e',?_,keep' h3⟩
   rw [hheap _ (fun h=>by rw [h,hO] at h1; simp at h1; exact hkj h1)]; exact h2
 ·rw [vs_r] at hr
  refine fam_frame (hR.rs r row hr) fun g o hg' hf=>⟨?_,rfl⟩
  rw [hheap g (fun h=>by rw [h,hO] at hf; rcases hf with h | h | h | ⟨_,_,h⟩<;>simp at h)]; exact hg'
 ·refine ⟨rfl,rfl,rfl,by simp,fun g hg' ho'=>⟨rfl,hheap g (fun h=>by rw [h,hO] at ho'; simp at ho')⟩,fun g hg'=>htop g (by simpa using hg')⟩
 ·have h1:=(hR.vs j cs hj).1
  rw [h,hO] at h1; simp at h1; subst h1
  simp [vsD,Dl.z,lkZ] at hz
end varstore
end Go.Soft
namespace Go.Soft
open Go
variable {X:Ctx} {m M:Lk} {γ γ':Gh} {w w':World} {ρ:Operand->Value} {S:St} {δ:Dl}
structure Chg (R:Nat->Prop) (γ:Gh) (w:World) (γ':Gh) (w':World):Prop where
 os:w'.os=w.os
 tape:w'.tape=w.tape
 output:w'.output=w.output
 size:w.heap.size<=w'.heap.size
 blk:∀ g,g<w.heap.size->(∀ r,R r->γ.O g≠some (.r r)/\∀ e c,γ.O g≠some (.n r e c))->w'.heap[g]? =w.heap[g]? /\γ'.O g=γ.O g
 top:∀ g,w'.heap.size<=g->γ'.O g=none
 vb:γ'.vb=γ.vb
 rv:∀ r,¬ R r->γ'.rv r=γ.rv r/\γ'.cv r=γ.cv r
theorem Chg.row {R:Nat->Prop} (h:Chg R γ w γ' w') {r:Nat} (hr:¬ R r) {row:Row} {v:Value} {cs:List Value} (hrow:RowR X γ.O w r row v cs):RowR X γ'.O w' r row v cs :=
 fam_frame hrow fun g o hg hf=>by
  obtain ⟨h1,h2⟩:=h.blk g (lt_of_some hg) (fun s hs=>by
   rcases hf with h | h | h | ⟨_,_,h⟩<;>rw [h]<;>refine ⟨?_,fun e c=> ?_⟩<;>simp
   ·rintro rfl; exact hr hs
   ·rintro rfl; exact absurd hs hr)
  exact ⟨h1.trans hg,h2⟩
theorem rows_step {R:Nat->Prop} (hR:Rel X S.lk γ w) (hvs:δ.vs=[]) (hc:Chg R γ w γ' w') (keep:∀ x v,RelC S.lk γ x v->RelC (S.app δ).lk γ' (δ.map x) v)
  (hset:∀ r row,lkZ δ.rs r=some (some row)->RowR X γ'.O w' r row (γ'.rv r) (γ'.cv r)) (hun:∀ r row,lkZ δ.rs r=none->S.lk.r r=some row->¬ R r)
  (hk1:∀ k row,lkZ δ.rs k=some (some row)->row.ow=1->k<100000) (hio:∀ k,200000<=k->k<300000->γ'.rv k=γ.rv k):Step X S γ w δ γ' w':=by
 refine ⟨⟨fun k cs hk=> ?_,fun r row hr=> ?_⟩,keep,?_,fun k row h1 h2=>hc.rv k (hun k row h1 h2),hk1,hio,fun k _=>(by rw [hc.vb]),fun k cs hk _=> ?_⟩
 ·rw [app_v,hvs] at hk
  simp only [lkZ] at hk
  cases hcs:S.lk.v k with
  | none=>simp [hcs] at hk
  | some cs' =>
   rw [hcs] at hk; simp only [Option.map_some,Option.some.injEq] at hk; subst hk
   obtain ⟨h1,cur,e,h2,h3⟩:=hR.vs k cs' hcs
   obtain ⟨h4,h5⟩:=hc.blk (γ.vb k) (lt_of_some h2) (fun s _=>by rw [h1]; simp)
   rw [hc.vb]
   exact ⟨h5.trans h1,cur,e,h4.trans h2,h3.map keep⟩
 ·rw [app_r] at hr
  cases hz:lkZ δ.rs r with
  | none =>
   rw [hz] at hr
   have hn:=hun r row hz hr
   obtain ⟨h1,h2⟩:=hc.rv r hn
   rw [h1,h2]
   exact hc.row hn (hR.rs r row hr)
  | some r' =>
   rw [hz] at hr
   subst hr
   exact hset r row hz
 ·refine ⟨hc.os,hc.tape,hc.output,hc.size,fun g hg ho=> ?_,hc.top⟩
  obtain ⟨h1,h2⟩:=hc.blk g hg (fun s _=>by rcases ho with h | h | h<;>rw [h]<;>simp)
  exact ⟨h2,h1⟩
 ·obtain ⟨h1,cur,e,h2,h3⟩:=hR.vs k cs hk
  obtain ⟨h4,h5⟩:=hc.blk (γ.vb k) (lt_of_some h2) (fun s _=>by rw [h1]; simp)
  exact ⟨by rw [hc.vb],h5.trans h1,h4⟩
def newO (O:OM) (key:Nat) (n:Option Nat):OM:=fun g=>if some g=n then some (.r key) else match O g with
 | some (.r k)=>if k=key then none else some (.r k)
 | some (.n k e c)=>if k=key then none else some (.n k e c)
 | o=>o
def newG (γ:Gh) (key:Nat) (n:Option Nat) (v:Value) (cs:List Value):Gh:={ γ with O:=newO γ.O key n,rv:=updN γ.rv key v,cv:=updN γ.cv key cs }
theorem new_chg (htop:∀ g,w.heap.size<=g->γ.O g=none) {key:Nat} {n:Option Nat} {v:Value} {cs:List Value} (hos:w'.os=w.os) (htp:w'.tape=w.tape) (hout:w'.output=w.output)
  (hsz:w.heap.size<=w'.heap.size) (hn:∀ g,some g=n->w.heap.size<=g/\g<w'.heap.size) (hb:∀ g,g<w.heap.size->w'.heap[g]? =w.heap[g]?) :
  Chg (·=key) γ w (newG γ key n v cs) w':=by
 refine ⟨hos,htp,hout,hsz,fun g hg hk=>⟨hb g hg,?_⟩,fun g hg=> ?_,rfl,fun r hr=>by simp [newG,updN,hr]⟩
 ·obtain ⟨h1,h2⟩:=hk key rfl
  have hgn:¬ some g=n:=fun h=>by have:=hn g h; omega
  simp only [newG,newO,if_neg hgn]
  cases ho:γ.O g with
  | none=>rfl
  | some o =>
   rw [ho] at h1 h2
   cases o with
   | r k=>simp at h1; simp [h1]
   | n k e c=>have:=h2 e c; simp at this; simp [this]
   | _=>rfl
 ·have hgn:¬ some g=n:=fun h=>by have:=hn g h; omega
  simp only [newG,newO,if_neg hgn,htop g (Nat.le_trans hsz hg)]
def nrD (key:Nat) (row:Row):Dl:={ Dl.z with kr:=[key],rs:=[(key,some row)] }
theorem nr_r (S:St) (key:Nat) (row:Row) (k:Nat):(S.app (nrD key row)).lk.r k=if key=k then some row else S.lk.r k:=by
 rw [app_r]
 show (match (if key=k then some (some row) else none) with | some r=>r | none=>_)=_
 by_cases h:key=k<;>simp [h]
theorem nr_v (S:St) (key:Nat) (row:Row) (k:Nat):(S.app (nrD key row)).lk.v k=(S.lk.v k).map (List.map (nrD key row).map):=by rw [app_v]; rfl
theorem hasN1 {a b:Nat}:hasN a [b]=false↔a≠b:=by
 simp only [hasN]
 cases h:Nat.beq b a with
 | true=>have:=nat_beq h; simp [this]
 | false=>simp; rintro rfl; rw [Nat.beq_refl] at h; cases h
theorem nr_keep (hR:Rel X S.lk γ w) (key:Nat) (row:Row) {γ':Gh} (hvb:γ'.vb=γ.vb) (hrv:∀ r,r≠key->γ'.rv r=γ.rv r/\γ'.cv r=γ.cv r) :
  ∀ x v,RelC S.lk γ x v->RelC (S.app (nrD key row)).lk γ' ((nrD key row).map x) v:=by
 have hne:∀ r,hasN r (nrD key row).kr=false->key≠r:=fun r h=>Ne.symm (hasN1.1 h)
 refine keep_of hR rfl (fun r rw' h hk=>⟨⟨rw',by rw [nr_r,if_neg (hne r hk)]; exact h⟩,(hrv r (Ne.symm (hne r hk))).1⟩) (fun r row1 row2 h hk _ h'=> ?_) (fun r hk _ _=>⟨fun row1 row2 h h'=> ?_⟩) (fun k cs h _=>⟨?_,by rw [hvb]⟩)
 ·rw [nr_r,if_neg (hne r hk),h] at h'; cases h'; exact ⟨rfl,Nat.le_refl _⟩
 ·rw [nr_r,if_neg (hne r hk),h] at h'; cases h'
  intro e c τ ys _ hc; exact ⟨⟨ys,hc,Nat.le_refl _⟩,by rw [(hrv r (Ne.symm (hne r hk))).2]⟩
 ·exact ⟨cs.map (nrD key row).map,by rw [nr_v,h]; rfl⟩
theorem nr_step (hR:Rel X S.lk γ w) {key:Nat} {row:Row} (hkey:key<100000) {v:Value} {cs:List Value} {n:Option Nat} (hc:Chg (·=key) γ w (newG γ key n v cs) w') (hrow:RowR X (newO γ.O key n) w' key row v cs) :
  Step X S γ w (nrD key row) (newG γ key n v cs) w'/\RelC (S.app (nrD key row)).lk (newG γ key n v cs) (.sw key) v:=by
 refine ⟨rows_step hR rfl hc (nr_keep hR key row rfl fun r hr=>by simp [newG,updN,hr]) (fun r row' h=> ?_) (fun r row' h _=> ?_) (fun k row' h _=> ?_) (fun k h1 _=>by simp [newG,updN,show k≠key by omega]),⟨row,by rw [nr_r,if_pos rfl]⟩,by simp [newG,updN]⟩
 ·have h:(if key=r then some (some row) else none)=some (some row'):=h
  by_cases hk:key=r
  ·subst hk; rw [if_pos rfl] at h; cases h
   simpa [newG,updN] using hrow
  ·rw [if_neg hk] at h; cases h
 ·have h:(if key=r then some (some row) else none)=none:=h
  by_cases hk:key=r
  ·rw [if_pos hk] at h; cases h
  ·exact Ne.symm hk
 ·have h:(if key=k then some (some row) else none)=some (some row'):=h
  by_cases hk:key=k
  ·omega
  ·rw [if_neg hk] at h; cases h
theorem dflt_cell (τ:Ty) {c:Nat} {ct:Ct} (h:(cells τ (dflt τ))[c]? =some ct) (X:Ctx) (O:OM) (w:World) (cl:Cls):CellR X O w cl ct (ctVal ct):=by
 have nil:∀ σ:Ty,σ.deep=false->CellR X O w cl (.l σ []) (.slice none 0 0):=by
  intro σ hd
  refine ⟨hd,?_⟩
  cases cl with
  | own t=>exact ⟨World.ownsRow_nil w 0 _ _,by simp [Value.ownBlock]⟩
  | _=>exact ⟨by simp [fcells],.inl ⟨rfl,rfl⟩⟩
 have hm:=List.mem_of_getElem? h
 have one:∀ ct':Ct,(ct'=ct)->(ct'= .l .int []\/ct'= .l .slot []\/CellR X O w cl ct' (ctVal ct'))->CellR X O w cl ct (ctVal ct):=by
  rintro _ rfl (rfl | rfl | h)
  ·exact nil _ rfl
  ·exact nil _ rfl
  ·exact h
 cases τ<;>simp only [cells,dflt,List.mem_cons,List.not_mem_nil,or_false] at hm
 all_goals (
  repeat (first
   | (refine one _ hm.symm ?_; first | exact .inr (.inr rfl) | exact .inl rfl | exact .inr (.inl rfl))
   | (refine hm.elim (fun hm=> ?_) (fun hm=> ?_))))
theorem elOwn_inv {t:TypeId} {τ:Ty} (h:X.elOwn t=some τ):X.P.underlying t=some (.slice (X.id τ))/\lk X.ty (X.id τ)=some τ:=by
 simp only [Ctx.elOwn,elId,Ctx.tyOf] at h
 revert h; split
 ·rename_i e he
  split
  ·rename_i τ' hτ
   split
   ·rename_i hb
    intro h; cases h
    have:=nat_beq hb
    subst this
    refine ⟨?_,hτ⟩
    revert he; split<;>intro he
    ·cases he; assumption
    ·cases he
   ·simp
  ·simp
 ·simp
theorem own_info (hX:CtxOk X) {t:TypeId} {τ:Ty} (h:X.elOwn t=some τ):∃ i z,X.P.info? (X.id τ)=some i/\i.zero=some z/\i.size=sz τ/\i.bytes<=128/\z.cells.toList=(cells τ (dflt τ)).map ctVal/\z.cells.size=sz τ:=by
 obtain ⟨_,h2⟩:=elOwn_inv h
 obtain ⟨i,hi,hs⟩:=hX.ty _ _ h2
 obtain ⟨i',z,hi',hz,hc,hb⟩:=hX.id _ _ h2 rfl
 rw [hi] at hi'; cases hi'
 refine ⟨i,z,hi,hz,hs,hb,hc,?_⟩
 have:=congrArg List.length hc
 simpa [cells_length] using this
theorem made_get {z:Array Value} {n e c s:Nat} (hs:z.size=s) (hp:0<s) (he:e<n) (hc:c<s):(madeCells z (n*s)).toList[e*s+c]? =z.toList[c]? :=by
 have h1:(e+1)*s<=n*s:=Nat.mul_le_mul_right _ he
 rw [Nat.add_mul] at h1
 have h2:e*s+c<n*s:=by omega
 have h3:(e*s+c) % s=c:=by rw [Nat.mul_comm,Nat.mul_add_mod,Nat.mod_eq_of_lt hc]
 subst hs
 simp [madeCells,h2,h3,hc]
theorem make_step (hX:CtxOk X) (hR:Rel X S.lk γ w) (htop:∀ g,w.heap.size<=g->γ.O g=none) {t:TypeId} {τ:Ty} (ht:X.elOwn t=some τ) {k k':IntKind} {n:Nat} (hn:n<=BIG) (key:Nat) (hkey:key<100000) :
  ∃ v w' γ',(Instr.makeSlice t (.int k n) (.int k' n)).run X.P w= .ok v w'/\Step X S γ w (nrD key ⟨τ,List.replicate n (dflt τ),5⟩) γ' w' /\
   RelC (S.app (nrD key ⟨τ,List.replicate n (dflt τ),5⟩)).lk γ' (.sw key) v:=by
 obtain ⟨hu,hτ⟩:=elOwn_inv ht
 obtain ⟨i,z,hi,hz,hs,hb,hc,hzs⟩:=own_info hX ht
 have hbn:i.bytes*n<=281474976710656:=by
  have:=Nat.mul_le_mul hb hn; simp only [BIG] at this; omega
 obtain ⟨w',hrun,hown,hgr⟩:=run_make_full (P:=X.P) w 0 t (X.id τ) i z (sz τ) hu hi hz hs k k' n hbn (by simp only [BIG] at hn; simp only [maxLen]; omega) (Nat.zero_le _)
 have hblk:w.heap.size<w'.heap.size:=(hown.lt w.heap.size rfl).2
 have hchg:Chg (·=key) γ w (newG γ key (some w.heap.size) (.slice (some ⟨w.heap.size,0,none⟩) n n) (madeCells z.cells (n*sz τ)).toList) w' :=
  new_chg htop hgr.os hgr.tape hgr.output hgr.size (fun g hg=>by cases hg; exact ⟨Nat.le_refl _,hblk⟩) (fun g hg=>hgr.block g hg (by simp))
 have hrow:RowR X (newO γ.O key (some w.heap.size)) w' key ⟨τ,List.replicate n (dflt τ),5⟩ (.slice (some ⟨w.heap.size,0,none⟩) n n) (madeCells z.cells (n*sz τ)).toList:=by
  refine ⟨⟨by simpa using hown,fun g hg=> ?_⟩,fun e c ct he hct=> ?_⟩
  ·have:w.heap.size=g:=by simpa [Value.ownBlock] using hg
   simp [newO,this]
  ·have he:e<n:=by simpa using he
   have hcs:(cells τ (dflt τ))[c]? =some ct:=by
    have:(List.replicate n (dflt τ)).getD e (dflt τ)=dflt τ:=by simp [List.getD,List.getElem?_replicate,he]
    rw [row_cs,this] at hct; exact hct
   have hlt:c<sz τ:=by have:=(List.getElem?_eq_some_iff.1 hcs).1; rwa [cells_length] at this
   refine ⟨ctVal ct,?_,dflt_cell τ hcs _ _ _ _⟩
   rw [made_get hzs (sz_pos τ) he hlt,hc,List.getElem?_map,hcs]; rfl
 obtain ⟨h1,h2⟩:=nr_step hR hkey hchg hrow
 exact ⟨_,w',_,hrun,h1,h2⟩
def TopA (M:Lk) (γ:Gh) (x:Cv) (g:Nat):Prop:=match x with
 | .sw r=>∃ row,M.r r=some row/\In (topC r row.ow) (γ.O g)
 | .sl r _ _=>∃ row,M.r r=some row/\In (topC r row.ow) (γ.O g)
 | .nw r e c=>∃ row,M.r r=some row/\In (nesC r e c row.ow) (γ.O g)
 | .ns r e c _ _=>∃ row,M.r r=some row/\In (nesC r e c row.ow) (γ.O g)
 | _=>False
theorem flat_top (hm:Le m M) (hR:Rel X M γ w) {x:Cv} {v:Value} (hx:RelC M γ x v) {τ:Ty} {ys:List (El τ)} (hd:τ.deep=false) (h:(m.vw x).ct=some (.l τ ys)) :
  SlF (TopA M γ x) w (sz τ) v ys.length (fcells τ ys):=by
 obtain ⟨⟨cs,hvis⟩,hlen⟩:=vw_vis hm hR hx h
 have hfl:=hvis.flat hd
 subst hfl
 refine ⟨hvis.top.1,?_⟩
 have top:∀ {A:Nat->Prop} {b:Value} {n':Nat} {cs':List Value} {off len z:Nat},SlF A w z b n' cs'->SubV z b off len v->∀ g o n cap,v= .slice (some ⟨g,o,none⟩) n cap->A g:=by
  intro A b n' cs' off len z hb hs g o n cap hv
  rcases hs with ⟨_,h2,_⟩ | ⟨g1,o1,n1,cap1,o2,cap2,h1,h2,_⟩
  ·rw [h2] at hv; cases hv
  ·rw [h2] at hv
   have hg:g1=g:=by injection hv with h1 _ _; injection h1 with h1; injection h1
   subst hg
   rcases hb.2 with ⟨h3,_⟩ | ⟨g3,o3,cap3,cur,e,fz,h3,_,ha,_⟩
   ·rw [h3] at h1; cases h1
   ·rw [h3] at h1
    have hg:g3=g1:=by injection h1 with h1 _ _; injection h1 with h1; injection h1
    exact hg▸ha
 have self:∀ {A:Nat->Prop} {n':Nat} {cs':List Value} {z:Nat},SlF A w z v n' cs'->∀ g o n cap,v= .slice (some ⟨g,o,none⟩) n cap->A g:=by
  intro A n' cs' z hb g o n cap hv
  exact top hb hb.slcV.self g o n cap hv
 have key:∀ g o n cap,v= .slice (some ⟨g,o,none⟩) n cap->TopA M γ x g:=by
  cases x with
  | nl σ=>intro g o n cap hv; have hx:v= .slice none 0 0:=hx; rw [hx] at hv; cases hv
  | sw r =>
   obtain ⟨⟨row,hr⟩,rfl⟩:=hx
   exact fun g o n cap hv=>⟨row,hr,self (hR.rs r row hr).top.slF g o n cap hv⟩
  | sl r off len =>
   obtain ⟨row,hr,_,hs⟩:=hx
   exact fun g o n cap hv=>⟨row,hr,top (hR.rs r row hr).top.slF hs g o n cap hv⟩
  | nw r e c =>
   obtain ⟨row,τ',ys',hr,he,hc,hu⟩:=hx
   obtain ⟨u',hu',hcell⟩:=(hR.rs r row hr).cel e c _ he hc
   rw [hu] at hu'; cases hu'
   exact fun g o n cap hv=>⟨row,hr,self hcell.2.slF g o n cap hv⟩
  | ns r e c off len =>
   obtain ⟨row,τ',ys',u,hr,he,hc,hu,_,hs⟩:=hx
   obtain ⟨u',hu',hcell⟩:=(hR.rs r row hr).cel e c _ he hc
   rw [hu] at hu'; cases hu'
   exact fun g o n cap hv=>⟨row,hr,top hcell.2.slF hs g o n cap hv⟩
  | _=>simp [Lk.vw,Vw.ct] at h
 rcases hvis.top.2 with hn | ⟨g,o,cap,cur,e,fz,h1,h2,h3,h4⟩
 ·exact .inl hn
 ·exact .inr ⟨g,o,cap,cur,e,fz,h1,h2,key _ _ _ _ h1,h4⟩
structure AbO (M:Lk) (γ:Gh) (w:World) (O':OM) (w':World) (x:Cv) (a:Ab) (key e c ow':Nat):Prop where
 heap:∀ g o,w.heap[g]? =some o->TopA M γ x g->w'.heap[g]? =some o
 non:∀ g,g<w.heap.size->(γ.O g=none\/γ.O g=some .fz)->O' g=γ.O g
 mv:∀ r,a.mv=some r->∀ g,γ.O g=some (.r r)->In (nesC key e c ow') (O' g)
 sh3:∀ r,a.sh=some (r,3)->∀ g,γ.O g=some (.r r)->O' g=some .fz
 sh4:∀ r,a.sh=some (r,4)->∀ g e c,γ.O g=some (.n r e c)->O' g=some .fz
theorem topC_cases (r:Nat) {ow:Nat} (ho:ownK ow=false):(topC r ow= .fz/\lvK ow=4)\/(topC r ow= .bor/\lvK ow=2):=by
 simp only [topC,ho,lvK]
 by_cases h3:ow=3
 ·subst h3; exact .inl ⟨rfl,rfl⟩
 ·refine .inr ⟨?_,?_⟩
  ·split
   ·exact absurd rfl h3
   ·rfl
  ·split
   ·exact absurd rfl h3
   ·rfl
theorem absorb_ok (hm:Le m M) (hR:Rel X M γ w) {x:Cv} {v:Value} (hx:RelC M γ x v) {a:Ab} (ha:m.absorb x=some a) {key e c ow':Nat} (how:ow'=2\/ow'=4\/ow'=5) (hle:ow'<=a.lv)
  {O':OM} {w':World} (h:AbO M γ w O' w' x a key e c ow'):CellR X O' w' (nesC key e c ow') a.ct v:=by
 have nil:∀ σ:Ty,σ.deep=false->CellR X O' w' (nesC key e c ow') (.l σ []) (.slice none 0 0):=by
  intro σ hd
  refine ⟨hd,?_⟩
  cases nesC key e c ow' with
  | own t=>exact ⟨World.ownsRow_nil w' 0 _ _,by simp [Value.ownBlock]⟩
  | _=>exact ⟨by simp [fcells],.inl ⟨rfl,rfl⟩⟩
 have shut:∀ (τ:Ty) (ys:List (El τ)),τ.deep=false->(m.vw x).ct=some (.l τ ys)->ow'≠5->(∀ g,g<w.heap.size->TopA M γ x g->In (nesC key e c ow') (O' g)) ->
   CellR X O' w' (nesC key e c ow') (.l τ ys) v:=by
  intro τ ys hd hct h5 ht
  refine ⟨hd,?_⟩
  have hs:=flat_top hm hR hx hd hct
  have hb:∀ g o,w.heap[g]? =some o->TopA M γ x g->w'.heap[g]? =some o/\In (nesC key e c ow') (O' g):=by
   intro g o hg hi
   exact ⟨h.heap g o hg hi,ht g (lt_of_some hg) hi⟩
  have hs':=hs.mono hb
  have:nesC key e c ow'= .bor\/nesC key e c ow'= .fz:=by
   rcases how with rfl | rfl | rfl
   ·exact .inl rfl
   ·exact .inr rfl
   ·exact absurd rfl h5
  rcases this with hc | hc<;>rw [hc] at hs' ⊢<;>exact hs'
 have toB:∀ g,g<w.heap.size->In .bor (γ.O g)->ow'=2->In (nesC key e c ow') (O' g):=by
  intro g hg hi h2; subst h2
  have:=h.non g hg hi
  show In .bor (O' g); rw [this]; exact hi
 have toF:∀ g,(O' g=some .fz)->ow'≠5->In (nesC key e c ow') (O' g):=by
  intro g hi h5
  rcases how with rfl | rfl | rfl
  ·exact .inr hi
  ·exact hi
  ·exact absurd rfl h5
 have fzF:∀ g,g<w.heap.size->γ.O g=some .fz->O' g=some .fz:=fun g hg hi=>by rw [h.non g hg (.inr hi)]; exact hi
 cases x with
 | b y=>simp only [Lk.absorb,Option.some.injEq] at ha; subst ha; exact hx
 | i k n=>simp only [Lk.absorb,Option.some.injEq] at ha; subst ha; exact hx
 | s y=>simp only [Lk.absorb,Option.some.injEq] at ha; subst ha; exact hx
 | nl τ =>
  simp only [Lk.absorb] at ha
  cases hd:τ.deep with
  | true=>simp [hd] at ha
  | false=>simp only [hd,Option.some.injEq] at ha; subst ha; have hx:v= .slice none 0 0:=hx; subst hx; exact nil τ hd
 | sw r =>
  simp only [Lk.absorb] at ha
  cases hr:m.r r with
  | none=>simp [hr] at ha
  | some row =>
   have hr2:=hm.r r row hr
   cases hd:row.τ.deep with
   | true=>simp [hr,hd] at ha
   | false =>
    cases ho:ownK row.ow with
    | true =>
     simp only [hr,hd,ho,Option.some.injEq] at ha; subst ha
     obtain ⟨⟨row',hr'⟩,rfl⟩:=hx
     have hrow:=hR.rs r row hr2
     refine ⟨hd,?_⟩
     have hfl:γ.cv r=fcells row.τ row.xs:=(hrow.vis (A:=fun _=>True) (fun _ _=>trivial)).flat hd
     have htop:=hrow.top
     rw [hfl] at htop
     refine htop.re (fun g o hg hi=> ?_) (fun _=>by simp [topC,ho,Cls.isOwn])
     have hi:γ.O g=some (.r r):=by simpa [topC,ho,In] using hi
     exact ⟨h.heap g o hg ⟨row,hr2,by simpa [topC,ho,In] using hi⟩,h.mv r rfl g hi⟩
    | false =>
     simp only [hr,hd,ho,Option.some.injEq] at ha; subst ha
     have hct:(m.vw (.sw r)).ct=some (.l row.τ row.xs):=by simp [Lk.vw,hr,Vw.ct]
     simp only at hle ⊢
     rcases topC_cases r ho with ⟨ht,hl⟩ | ⟨ht,hl⟩
     ·rw [hl] at hle
      refine shut _ _ hd hct (by omega) (fun g hg hi=>toF g ?_ (by omega))
      obtain ⟨row',hr',hi⟩:=hi
      rw [hr2] at hr'; cases hr'
      rw [ht] at hi; exact fzF g hg hi
     ·rw [hl] at hle
      refine shut _ _ hd hct (by omega) (fun g hg hi=>toB g hg ?_ (by omega))
      obtain ⟨row',hr',hi⟩:=hi
      rw [hr2] at hr'; cases hr'
      rw [ht] at hi; exact hi
 | sl r off len =>
  simp only [Lk.absorb] at ha
  cases hct:(m.vw (.sl r off len)).ct with
  | none=>simp [hct] at ha
  | some ct =>
   cases ct with
   | l τ y =>
    cases hr:m.r r with
    | none=>simp [hct,hr,Cv.row] at ha
    | some row =>
     have hr2:=hm.r r row hr
     cases hd:τ.deep with
     | true=>simp [hct,hr,hd,Cv.row] at ha
     | false =>
      cases ho:ownK row.ow with
      | true =>
       simp only [hct,hr,hd,ho,Cv.row,Cv.inner] at ha
       cases h4:leK 4 row.ow with
       | false=>simp [h4] at ha
       | true =>
       simp only [h4,Option.some.injEq] at ha; subst ha
       simp only at hle ⊢
       refine shut _ _ hd hct (by omega) (fun g hg hi=>toF g ?_ (by omega))
       obtain ⟨row',hr',hi⟩:=hi
       rw [hr2] at hr'; cases hr'
       exact h.sh3 r rfl g (by simpa [topC,ho,In] using hi)
      | false =>
       simp only [hct,hr,hd,ho,Cv.row,Cv.inner,Option.some.injEq] at ha; subst ha
       simp only at hle ⊢
       rcases topC_cases r ho with ⟨ht,hl⟩ | ⟨ht,hl⟩
       ·rw [hl] at hle
        refine shut _ _ hd hct (by omega) (fun g hg hi=>toF g ?_ (by omega))
        obtain ⟨row',hr',hi⟩:=hi
        rw [hr2] at hr'; cases hr'
        rw [ht] at hi; exact fzF g hg hi
       ·rw [hl] at hle
        refine shut _ _ hd hct (by omega) (fun g hg hi=>toB g hg ?_ (by omega))
        obtain ⟨row',hr',hi⟩:=hi
        rw [hr2] at hr'; cases hr'
        rw [ht] at hi; exact hi
   | _=>simp [hct] at ha
 | nw r e' c' =>
  simp only [Lk.absorb] at ha
  cases hct:(m.vw (.nw r e' c')).ct with
  | none=>simp [hct] at ha
  | some ct =>
   cases ct with
   | l τ y =>
    cases hr:m.r r with
    | none=>simp [hct,hr,Cv.row] at ha
    | some row =>
     have hr2:=hm.r r row hr
     cases hd:τ.deep with
     | true=>simp [hct,hr,hd,Cv.row] at ha
     | false =>
      simp only [hct,hr,hd,Cv.row,Cv.inner] at ha
      have fz4:(row.ow=4\/row.ow=3)->a=⟨.l τ y,none,none,4⟩->CellR X O' w' (nesC key e c ow') a.ct v:=by
       rintro ho rfl
       simp only at hle ⊢
       refine shut _ _ hd hct (by omega) (fun g hg hi=>toF g ?_ (by omega))
       obtain ⟨row',hr',hi⟩:=hi
       rw [hr2] at hr'; cases hr'
       exact fzF g hg (by rcases ho with ho | ho<;>rw [ho] at hi<;>exact hi)
      revert ha; split
      ·rename_i ho
       intro ha; cases ha
       simp only at hle ⊢
       refine shut _ _ hd hct (by omega) (fun g hg hi=>toF g ?_ (by omega))
       obtain ⟨row',hr',hi⟩:=hi
       rw [hr2] at hr'; cases hr'
       rw [ho] at hi
       exact h.sh4 r rfl g _ _ hi
      ·rename_i ho; intro ha; exact fz4 (.inl ho) (Option.some.inj ha).symm
      ·rename_i ho; intro ha; exact fz4 (.inr ho) (Option.some.inj ha).symm
      ·rename_i h5 h4 h3
       intro ha; cases ha
       simp only at hle ⊢
       refine shut _ _ hd hct (by omega) (fun g hg hi=>toB g hg ?_ (by omega))
       obtain ⟨row',hr',hi⟩:=hi
       rw [hr2] at hr'; cases hr'
       have:∀ e c,nesC r e c row.ow= .bor:=by
        intro e c; simp only [nesC]
       rw [this] at hi; exact hi
   | _=>simp [hct] at ha
 | ns r e' c' off len =>
  simp only [Lk.absorb] at ha
  cases hct:(m.vw (.ns r e' c' off len)).ct with
  | none=>simp [hct] at ha
  | some ct =>
   cases ct with
   | l τ y =>
    cases hr:m.r r with
    | none=>simp [hct,hr,Cv.row] at ha
    | some row =>
     have hr2:=hm.r r row hr
     cases hd:τ.deep with
     | true=>simp [hct,hr,hd,Cv.row] at ha
     | false =>
      simp only [hct,hr,hd,Cv.row,Cv.inner] at ha
      have fz4:(row.ow=4\/row.ow=3)->a=⟨.l τ y,none,none,4⟩->CellR X O' w' (nesC key e c ow') a.ct v:=by
       rintro ho rfl
       simp only at hle ⊢
       refine shut _ _ hd hct (by omega) (fun g hg hi=>toF g ?_ (by omega))
       obtain ⟨row',hr',hi⟩:=hi
       rw [hr2] at hr'; cases hr'
       exact fzF g hg (by rcases ho with ho | ho<;>rw [ho] at hi<;>exact hi)
      revert ha; split
      ·rename_i ho
       intro ha; cases ha
       simp only at hle ⊢
       refine shut _ _ hd hct (by omega) (fun g hg hi=>toF g ?_ (by omega))
       obtain ⟨row',hr',hi⟩:=hi
       rw [hr2] at hr'; cases hr'
       rw [ho] at hi
       exact h.sh4 r rfl g _ _ hi
      ·rename_i ho; intro ha; exact fz4 (.inl ho) (Option.some.inj ha).symm
      ·rename_i ho; intro ha; exact fz4 (.inr ho) (Option.some.inj ha).symm
      ·rename_i h5 h4 h3
       intro ha; cases ha
       simp only at hle ⊢
       refine shut _ _ hd hct (by omega) (fun g hg hi=>toB g hg ?_ (by omega))
       obtain ⟨row',hr',hi⟩:=hi
       rw [hr2] at hr'; cases hr'
       have:∀ e c,nesC r e c row.ow= .bor:=by
        intro e c; simp only [nesC]
       rw [this] at hi; exact hi
   | _=>simp [hct] at ha
 | _=>simp [Lk.absorb,Lk.vw,Vw.ct] at ha
structure AbsO (M:Lk) (γ:Gh) (w:World) (O':OM) (w':World) (xs:List Cv) (mv:List (Nat×(Nat×Nat))) (sh:List (Nat×Nat)) (key ow':Nat):Prop where
 heap:∀ g o,w.heap[g]? =some o->(∃ x∈xs,TopA M γ x g)->w'.heap[g]? =some o
 non:∀ g,g<w.heap.size->(γ.O g=none\/γ.O g=some .fz)->O' g=γ.O g
 mv:∀ r e c,(r,(e,c))∈mv->∀ g,γ.O g=some (.r r)->In (nesC key e c ow') (O' g)
 sh3:∀ r,(r,3)∈sh->∀ g,γ.O g=some (.r r)->O' g=some .fz
 sh4:∀ r,(r,4)∈sh->∀ g e c,γ.O g=some (.n r e c)->O' g=some .fz
theorem AbsO.mono {O':OM} {xs ys:List Cv} {mv mv':List (Nat×(Nat×Nat))} {sh sh':List (Nat×Nat)} {key ow':Nat} (h:AbsO M γ w O' w' xs mv sh key ow') (hx:∀ x∈ys,x∈xs) (hmv:∀ p∈mv',p∈mv)
  (hsh:∀ p∈sh',p∈sh):AbsO M γ w O' w' ys mv' sh' key ow' :=
 ⟨fun g o hg hi=>h.heap g o hg (let ⟨x,hx',hi⟩:=hi; ⟨x,hx x hx',hi⟩),h.non,
  fun r e c hr=>h.mv r e c (hmv _ hr),fun r hr=>h.sh3 r (hsh _ hr),fun r hr=>h.sh4 r (hsh _ hr)⟩
theorem absorbs_ok (hm:Le m M) (hR:Rel X M γ w) {key ow' e:Nat} (how:ow'=2\/ow'=4\/ow'=5) {O':OM} {w':World} :
  ∀ (vl:List Cv) (us:List Value) (c:Nat) (a:Abs),RelL M γ vl us->m.absorbs e c vl=some a->ow'<=a.lv->AbsO M γ w O' w' vl a.mv a.sh key ow' ->
   a.cts.length=vl.length/\∀ j ct,a.cts[j]? =some ct->∃ u,us[j]? =some u/\CellR X O' w' (nesC key e (c+j) ow') ct u:=by
 intro vl
 induction vl with
 | nil=>intro us c a hr ha _ _; simp only [Lk.absorbs,Option.some.injEq] at ha; subst ha; exact ⟨rfl,by simp⟩
 | cons x vl ih =>
  intro us c a hr ha hle hO
  cases hr with
  | cons hx hl =>
   rename_i v us
   simp only [Lk.absorbs] at ha
   cases hab:m.absorb x with
   | none=>simp [hab] at ha
   | some a1 =>
    cases hrest:m.absorbs e (c+1) vl with
    | none=>simp [hab,hrest] at ha
    | some a2 =>
     simp only [hab,hrest,Option.some.injEq] at ha; subst ha
     simp only at hle hO ⊢
     have h2:AbsO M γ w O' w' vl a2.mv a2.sh key ow':=hO.mono (fun x hx=>List.mem_cons_of_mem _ hx) (fun p hp=>by split; exact List.mem_cons_of_mem _ hp; exact hp)
      (fun p hp=>by split; exact List.mem_cons_of_mem _ hp; exact hp)
     obtain ⟨i1,i2⟩:=ih us (c+1) a2 hl hrest (by omega) h2
     have h1:AbO M γ w O' w' x a1 key e c ow':=by
      refine ⟨fun g o hg hi=>hO.heap g o hg ⟨x,by simp,hi⟩,hO.non,fun r hr=> ?_,fun r hr=> ?_,fun r hr=> ?_⟩
      ·have:=hO.mv r e c (by rw [hr]; simp)
       exact this
      ·exact hO.sh3 r (by rw [hr]; simp)
      ·exact hO.sh4 r (by rw [hr]; simp)
     have h0:=absorb_ok hm hR hx hab (key:=key) (e:=e) (c:=c) how (by omega) h1
     refine ⟨by simp [i1],fun j ct hj=> ?_⟩
     cases j with
     | zero=>simp only [List.getElem?_cons_zero,Option.some.injEq] at hj; subst hj; exact ⟨v,rfl,h0⟩
     | succ j =>
      obtain ⟨u,hu,hc⟩:=i2 j ct (by simpa using hj)
      exact ⟨u,by simpa using hu,by rw [show c+(j+1)=c+1+j by omega]; exact hc⟩
theorem mkEl_cells {τ:Ty} {l:List Ct} {y:El τ} (h:mkEl τ l=some y) (hb:τ.isByte=true->okEl τ l=true):cells τ y=l:=by
 revert h hb
 fun_cases mkEl τ l
 case case3 n =>
  intro h hb
  cases h
  have hb:=hb rfl
  simp only [okEl,Bool.and_eq_true,decide_eq_true_eq] at hb
  obtain ⟨h0,h1⟩:=hb
  have:((UInt8.ofNat n.toNat).toNat:Int)=n:=by
   have h2:n.toNat<256:=by omega
   simp only [UInt8.toNat_ofNat']
   rw [Nat.mod_eq_of_lt (by simpa using h2)]
   omega
  simp only [cells,this]
 all_goals (intro h hb; first | (cases h; rfl) | (exfalso; rw [mkEl.eq_11 _ _ (by assumption) (by assumption) (by assumption) (by assumption) (by assumption) (by assumption) (by assumption) (by assumption) (by assumption) (by assumption)] at h; cases h))
theorem hasN_iff {a:Nat} {l:List Nat}:hasN a l=true↔a∈l:=by
 induction l with
 | nil=>simp [hasN]
 | cons b l ih =>
  simp only [hasN,List.mem_cons]
  cases h:Nat.beq b a with
  | true=>have:=nat_beq h; simp [this]
  | false =>
   simp only [ih]; constructor
   ·exact .inr
   ·rintro (rfl | h')
    ·rw [Nat.beq_refl] at h; cases h
    ·exact h'
theorem nodupN_iff {l:List Nat}:nodupN l=true↔l.Nodup:=by
 induction l with
 | nil=>simp [nodupN]
 | cons a l ih =>
  simp only [nodupN,List.nodup_cons,← hasN_iff]
  cases h:hasN a l<;>simp [ih]
theorem keys_eq {α:Type} (l:List (Nat×α)):keys l=l.map (·.1):=by
 induction l with
 | nil=>rfl
 | cons p l ih=>obtain ⟨k,v⟩:=p; simp [keys,ih]
theorem lk_mem {α:Type} {l:List (Nat×α)} {k:Nat} {v:α} (h:lk l k=some v):(k,v)∈l:=by
 induction l with
 | nil=>simp [lk] at h
 | cons p l ih =>
  obtain ⟨j,u⟩:=p
  simp only [lk] at h
  cases hj:Nat.beq j k with
  | true=>simp only [hj,Option.some.injEq] at h; have:=nat_beq hj; subst this; subst h; simp
  | false=>simp only [hj] at h; exact List.mem_cons_of_mem _ (ih h)
theorem lk_none {α:Type} {l:List (Nat×α)} {k:Nat}:lk l k=none↔k∉keys l:=by
 induction l with
 | nil=>simp [lk,keys]
 | cons p l ih =>
  obtain ⟨j,u⟩:=p
  simp only [lk,keys,List.mem_cons,not_or]
  cases hj:Nat.beq j k with
  | true=>have:=nat_beq hj; simp [this]
  | false =>
   simp only [ih]; constructor
   ·intro h; exact ⟨(by rintro rfl; rw [Nat.beq_refl] at hj; cases hj),h⟩
   ·exact fun h=>h.2
theorem mem_keys {α:Type} {l:List (Nat×α)} {k:Nat} {v:α} (h:(k,v)∈l):k∈keys l:=by rw [keys_eq]; exact List.mem_map_of_mem h
theorem lk_of_mem {α:Type} {l:List (Nat×α)} {k:Nat} {v:α} (hn:(keys l).Nodup) (h:(k,v)∈l):lk l k=some v:=by
 induction l with
 | nil=>simp at h
 | cons p l ih =>
  obtain ⟨j,u⟩:=p
  simp only [keys,List.nodup_cons] at hn
  simp only [lk]
  rcases List.mem_cons.1 h with h | h
  ·cases h; simp [Nat.beq_refl]
  ·have hne:Nat.beq j k=false:=by
    cases hj:Nat.beq j k with
    | false=>rfl
    | true=>have:=nat_beq hj; subst this; exact absurd (mem_keys h) hn.1
   simp [hne,ih hn.2 h]
theorem lkZ_append {α:Type} (a b:List (Nat×α)) (k:Nat):lkZ (a++b) k=match lkZ b k with | some v=>some v | none=>lkZ a k:=by
 induction a with
 | nil=>simp [lkZ]; cases lkZ b k<;>rfl
 | cons p a ih =>
  obtain ⟨j,u⟩:=p
  simp only [List.cons_append,lkZ,ih]
  cases lkZ b k<;>rfl
theorem lkZ_one {α:Type} (j:Nat) (v:α) (k:Nat):lkZ [(j,v)] k=if j=k then some v else none:=rfl
def dn (ow' key e c:Nat):Ow:=match ow' with | 5=> .n key e c | _=> .fz
theorem dn_in {ow' key e c:Nat} (how:ow'=2\/ow'=4\/ow'=5):In (nesC key e c ow') (some (dn ow' key e c)):=by
 rcases how with rfl | rfl | rfl
 ·exact .inr rfl
 ·exact rfl
 ·exact rfl
structure Ro where
 key:Nat
 ow':Nat
 keep:Bool
 dead:Nat->Nat->Bool
 mv:List (Nat×(Nat×Nat))
 sh:List (Nat×Nat)
def Ro.f (a:Ro):Ow->Option Ow
 | .r k=>match lk a.mv k with
  | some (e,c)=>some (dn a.ow' a.key e c)
  | none=>match lk a.sh k with
   | some 3=>some .fz
   | _=>if k=a.key then (if a.keep then some (.r k) else none) else some (.r k)
 | .n k e c=>match lk a.sh k with
  | some _=>some .fz
  | none=>if k=a.key then (if a.dead e c then none else some (dn a.ow' a.key e c)) else some (.n k e c)
 | o=>some o
def Ro.R (a:Ro) (r:Nat):Prop:=r=a.key\/r∈keys a.mv\/r∈keys a.sh
def Ro.O (a:Ro) (O:OM) (nb:Option Nat):OM:=fun g=>if some g=nb then some (.r a.key) else (O g).bind a.f
def Ro.apart (a:Ro):Prop:=(a.key::(keys a.mv++keys a.sh)).Nodup
theorem Ro.f_out (a:Ro) {o:Ow} (h:∀ r,a.R r->o≠ .r r/\∀ e c,o≠ .n r e c):a.f o=some o:=by
 cases o with
 | r k =>
  have hk:¬ a.R k:=fun hr=>(h k hr).1 rfl
  simp only [Ro.R,not_or] at hk
  simp [Ro.f,lk_none.2 hk.2.1,lk_none.2 hk.2.2,hk.1]
 | n k e c =>
  have hk:¬ a.R k:=fun hr=>(h k hr).2 e c rfl
  simp only [Ro.R,not_or] at hk
  simp [Ro.f,lk_none.2 hk.2.2,hk.1]
 | _=>rfl
theorem Ro.chg (a:Ro) (htop:∀ g,w.heap.size<=g->γ.O g=none) {nb:Option Nat} {rv':Nat->Value} {cv':Nat->List Value} (hos:w'.os=w.os) (htp:w'.tape=w.tape)
  (hout:w'.output=w.output) (hsz:w.heap.size<=w'.heap.size) (hn:∀ g,some g=nb->w.heap.size<=g/\g<w'.heap.size)
  (hb:∀ g,g<w.heap.size->γ.O g≠some (.r a.key)->w'.heap[g]? =w.heap[g]?) (hrv:∀ r,r≠a.key->rv' r=γ.rv r/\cv' r=γ.cv r) :
  Chg a.R γ w { γ with O:=a.O γ.O nb,rv:=rv',cv:=cv' } w':=by
 refine ⟨hos,htp,hout,hsz,fun g hg hk=>⟨hb g hg ?_,?_⟩,fun g hg=> ?_,rfl,fun r hr=>hrv r fun e=>hr (.inl e)⟩
 ·exact (hk a.key (.inl rfl)).1
 ·have hgn:¬ some g=nb:=fun h=>by have:=hn g h; omega
  simp only [Ro.O,if_neg hgn]
  cases ho:γ.O g with
  | none=>rfl
  | some o =>
   show a.f o=some o
   exact a.f_out fun r hr=>by
    obtain ⟨h1,h2⟩:=hk r hr
    rw [ho] at h1 h2
    exact ⟨fun e=>h1 (congrArg some e),fun e c e'=>h2 e c (congrArg some e')⟩
 ·have hgn:¬ some g=nb:=fun h=>by have:=hn g h; omega
  simp only [Ro.O,if_neg hgn,htop g (Nat.le_trans hsz hg)]
  rfl
theorem Ro.absO (a:Ro) (hap:a.apart) (how:a.ow'=2\/a.ow'=4\/a.ow'=5) {nb:Option Nat} (hn:∀ g,some g=nb->w.heap.size<=g) (htop:∀ g,w.heap.size<=g->γ.O g=none) {xs:List Cv}
  (heap:∀ g o,w.heap[g]? =some o->(∃ x∈xs,TopA M γ x g)->w'.heap[g]? =some o) :
  AbsO M γ w (a.O γ.O nb) w' xs a.mv a.sh a.key a.ow':=by
 have hmn:(keys a.mv).Nodup:=by
  have:=hap; simp only [Ro.apart,List.nodup_cons,List.nodup_append] at this; exact this.2.1
 have hsn:(keys a.sh).Nodup:=by
  have:=hap; simp only [Ro.apart,List.nodup_cons,List.nodup_append] at this; exact this.2.2.1
 have hms:∀ k,k∈keys a.sh->lk a.mv k=none:=by
  intro k hk
  rw [lk_none]
  intro hk'
  have:=hap; simp only [Ro.apart,List.nodup_cons,List.nodup_append] at this
  exact this.2.2.2 k hk' k hk rfl
 have hO:∀ g o,γ.O g=some o->a.O γ.O nb g=a.f o:=by
  intro g o ho
  have hgn:¬ some g=nb:=fun h=>by have:=htop g (hn g h); rw [this] at ho; cases ho
  simp only [Ro.O,if_neg hgn,ho]; rfl
 refine ⟨heap,fun g hg hi=> ?_,fun r e c hr g hg=> ?_,fun r hr g hg=> ?_,fun r hr g e c hg=> ?_⟩
 ·rcases hi with h | h
  ·have hgn:¬ some g=nb:=fun h'=>by have:=hn g h'; omega
   simp only [Ro.O,if_neg hgn,h]; rfl
  ·rw [hO g _ h,h]; rfl
 ·rw [hO g _ hg]
  simp only [Ro.f,lk_of_mem hmn hr]
  exact dn_in how
 ·rw [hO g _ hg]
  simp only [Ro.f,hms r (mem_keys hr),lk_of_mem hsn hr]
 ·rw [hO g _ hg]
  simp only [Ro.f,lk_of_mem hsn hr]
theorem Ro.shared (a:Ro) (hap:a.apart) {nb:Option Nat} (hn:∀ g,some g=nb->w.heap.size<=g) (htop:∀ g,w.heap.size<=g->γ.O g=none)
  (hb:∀ g,g<w.heap.size->γ.O g≠some (.r a.key)->w'.heap[g]? =w.heap[g]?) {r k:Nat} {row:Row} {v:Value} {cs:List Value} (hrow:RowR X γ.O w r row v cs) (hr:(r,k)∈a.sh)
  (hk:(k=3/\leK 4 row.ow=true)\/(k=4/\row.ow=5)):RowR X (a.O γ.O nb) w' r { row with ow:=k } v cs:=by
 have hsn:(keys a.sh).Nodup:=by
  have:=hap; simp only [Ro.apart,List.nodup_cons,List.nodup_append] at this; exact this.2.2.1
 have hms:lk a.mv r=none:=by
  rw [lk_none]
  intro hk'
  have:=hap; simp only [Ro.apart,List.nodup_cons,List.nodup_append] at this
  exact this.2.2.2 r hk' r (mem_keys hr) rfl
 have hkey:r≠a.key:=by
  have:=hap; simp only [Ro.apart,List.nodup_cons,List.mem_append,not_or] at this
  rintro rfl; exact this.1.2 (mem_keys hr)
 have hO:∀ g o,γ.O g=some o->a.O γ.O nb g=a.f o:=by
  intro g o ho
  have hgn:¬ some g=nb:=fun h=>by have:=htop g (hn g h); rw [this] at ho; cases ho
  simp only [Ro.O,if_neg hgn,ho]; rfl
 have hlk:=lk_of_mem hsn hr
 have hown:row.ow=4\/row.ow=5:=by
  rcases hk with ⟨_,h⟩ | ⟨_,h⟩
  ·revert h; simp only [leK]; split<;>simp_all
  ·exact .inr h
 have fr:(k=3->a.f (.r r)=some .fz)/\(k=4->a.f (.r r)=some (.r r)):=by
  refine ⟨fun h=> ?_,fun h=> ?_⟩
  ·subst h; simp only [Ro.f,hms,hlk]
  ·subst h; simp only [Ro.f,hms,hlk]
   show (if r=a.key then _ else some (Ow.r r))=_
   rw [if_neg hkey]
 refine hrow.re ?_ (fun g o hg hi=> ?_) (fun e c g o hg hi=> ?_)
 ·rcases hk with ⟨rfl,_⟩ | ⟨rfl,h⟩
  ·rcases hown with h | h<;>rw [h]<;>rfl
  ·rw [h]; rfl
 ·have hi:γ.O g=some (.r r):=by rcases hown with h | h<;>rw [h] at hi<;>exact hi
  refine ⟨(hb g (lt_of_some hg) (by rw [hi]; simp; exact hkey)).trans hg,?_⟩
  rw [hO g _ hi]
  rcases hk with ⟨rfl,_⟩ | ⟨rfl,_⟩
  ·rw [fr.1 rfl]; rfl
  ·rw [fr.2 rfl]; rfl
 ·have hi:γ.O g=some (.n r e c)\/γ.O g=some .fz:=by
   rcases hown with h | h<;>rw [h] at hi
   ·exact .inr hi
   ·exact .inl hi
  have h5:a.O γ.O nb g=some .fz:=by
   rcases hi with hi | hi
   ·rw [hO g _ hi]; simp only [Ro.f,hlk]
   ·rw [hO g _ hi]; rfl
  refine ⟨(hb g (lt_of_some hg) (by rcases hi with h | h<;>rw [h]<;>simp)).trans hg,?_⟩
  rw [h5]
  rcases hk with ⟨rfl,_⟩ | ⟨rfl,_⟩<;>rfl
theorem keep_gen (hR:Rel X S.lk γ w)
  (hmv:∀ r d e c row,lk δ.mv r=some (d,e,c)->S.lk.r r=some row->∃ row',(S.app δ).lk.r d=some row'/\e<row'.xs.length/\(row'.cs e)[c]? =some (.l row.τ row.xs) /\
   (γ'.cv d)[e*sz row'.τ+c]? =some (γ.rv r))
  (hw:∀ r row,S.lk.r r=some row->lk δ.mv r=none->hasN r δ.kr=false->(∃ row',(S.app δ).lk.r r=some row')/\γ'.rv r=γ.rv r)
  (hr:∀ r row row',S.lk.r r=some row->lk δ.mv r=none->hasN r δ.kr=false->hasN r δ.ke=false->(S.app δ).lk.r r=some row'->row'.τ=row.τ/\row.xs.length<=row'.xs.length)
  (hn:∀ r,lk δ.mv r=none->hasN r δ.kr=false->hasN r δ.ke=false->hasN r δ.kn=false->KeepN S.lk γ (S.app δ).lk γ' r)
  (hv:∀ k cs,S.lk.v k=some cs->hasN k δ.kv=false->(∃ cs',(S.app δ).lk.v k=some cs')/\γ'.vb k=γ.vb k) :
  ∀ x v,RelC S.lk γ x v->RelC (S.app δ).lk γ' (δ.map x) v:=by
 intro x v hx
 rcases map_cases δ x with h | ⟨h,h1,h2⟩ | ⟨r,d,e,c,h,hh⟩
 ·rw [h]; exact hx.one hR
 ·rw [h]
  by_cases hs:∃ r,x= .sw r
  ·obtain ⟨r,rfl⟩:=hs
   obtain ⟨⟨row,hrow⟩,rfl⟩:=hx
   obtain ⟨h0,h3,_⟩:=h1 r rfl
   obtain ⟨h4,h5⟩:=hw r row hrow h0 h3
   exact ⟨h4,h5.symm⟩
  ·have hs':∀ s,x≠ .sw s:=fun s e=>hs ⟨s,e⟩
   have hrow:∀ r,x.row=some r->∃ row,S.lk.r r=some row:=by
    intro r hxr
    cases x<;>simp [Cv.row] at hxr<;>subst hxr
    case sw r=>exact absurd rfl (hs' r)
    case sl=>obtain ⟨row,h,_⟩:=hx; exact ⟨row,h⟩
    case nw=>obtain ⟨row,_,_,h,_⟩:=hx; exact ⟨row,h⟩
    case ns=>obtain ⟨row,_,_,_,h,_⟩:=hx; exact ⟨row,h⟩
    case pe=>obtain ⟨row,h,_⟩:=hx; exact ⟨row,h⟩
    case pn=>obtain ⟨row,_,_,_,h,_⟩:=hx; exact ⟨row,h⟩
   have hvar:∀ k∈x.vk,∃ cs,S.lk.v k=some cs:=by
    intro k hk
    cases x<;>simp [Cv.vk] at hk
    case pv=>subst hk; exact hx.1
    case fn=>exact hx.1 k hk
   refine hx.re (fun r hr'=> ?_) (fun r hr' hi=> ?_) (fun k hk=> ?_)
   ·obtain ⟨h0,h3,h4,_⟩:=h1 r hr'
    obtain ⟨row,hrw⟩:=hrow r hr'
    obtain ⟨⟨row',h5⟩,h6⟩:=hw r row hrw h0 h3
    refine ⟨fun row2 h7=> ?_,h6⟩
    rw [hrw] at h7; cases h7
    obtain ⟨h8,h9⟩:=hr r row row' hrw h0 h3 (h4 hs') h5
    exact ⟨row',h5,h8,h9⟩
   ·obtain ⟨h0,h3,h4,h5⟩:=h1 r hr'
    exact hn r h0 h3 (h4 hs') (h5 hi)
   ·obtain ⟨cs,hcs⟩:=hvar k hk
    obtain ⟨h3,h4⟩:=hv k cs hcs (h2 k hk)
    exact ⟨fun _ _=>h3,h4⟩
 ·rcases hh with ⟨rfl,hm⟩ | ⟨o,n,rfl,hm⟩ | ⟨k,i,rfl,hm⟩
  ·obtain ⟨⟨row,hrow⟩,rfl⟩:=hx
   obtain ⟨row',h1,h2,h3,h4⟩:=hmv r d e c row h hrow
   rw [hm]; exact ⟨row',row.τ,row.xs,h1,h2,h3,h4⟩
  ·obtain ⟨row,hrow,hle,hs⟩:=hx
   obtain ⟨row',h1,h2,h3,h4⟩:=hmv r d e c row h hrow
   rw [hm]; exact ⟨row',row.τ,row.xs,_,h1,h2,h3,h4,hle,hs⟩
  ·obtain ⟨row,hrow,hle,hs⟩:=hx
   obtain ⟨row',h1,h2,h3,h4⟩:=hmv r d e c row h hrow
   rw [hm]; exact ⟨row',row.τ,row.xs,_,h1,h2,h3,h4,hle,hs⟩
theorem take_repl {α:Type} (l m:List α) (i N:Nat) (h:i+m.length<=N) (hN:N<=l.length):(Soft.repl l i m).take N=Soft.repl (l.take N) i m:=by
 apply List.ext_getElem?
 intro j
 rw [List.getElem?_take]
 rcases Nat.lt_trichotomy j i with hj | hj | hj
 ·rw [if_pos (by omega),repl_get_lt _ _ _ _ hj (by omega),repl_get_lt _ _ _ _ hj (by simp; omega),List.getElem?_take,if_pos (by omega)]
 all_goals
  by_cases h2:j<i+m.length
  ·obtain ⟨d,rfl⟩:∃ d,j=i+d:=⟨j-i,by omega⟩
   rw [if_pos (by omega),repl_get_in _ _ _ _ (by omega) (by omega),repl_get_in _ _ _ _ (by omega) (by simp; omega)]
  ·rw [repl_get_ge _ _ _ _ (by omega) (by omega),repl_get_ge _ _ _ _ (by omega) (by simp; omega),List.getElem?_take]
theorem ownK_cases {a:Nat} (h:ownK a=true):a=2\/a=4\/a=5:=by revert h; simp only [ownK]; split<;>simp_all
theorem own_ne1 {a:Nat} (h:ownK a=true):a≠1:=by rcases ownK_cases h with rfl | rfl | rfl<;>decide
theorem one_k1 {r:Nat} {row':Row} (h:row'.ow≠1) (k:Nat) (row:Row) (e:(if r=k then some (some row') else none)=some (some row)) (h1:row.ow=1):k<100000:=by
 by_cases hk:r=k
 ·rw [if_pos hk] at e; cases e; exact absurd h1 h
 ·rw [if_neg hk] at e; cases e
theorem min_own {a l:Nat} (h:ownK a=true) (hl:l=2\/l=4\/l=5):(min a l=2\/min a l=4\/min a l=5)/\ownK (min a l)=true/\leK (min a l) a=true:=by
 rcases ownK_cases h with rfl | rfl | rfl<;>rcases hl with rfl | rfl | rfl<;>simp [ownK,leK]
theorem absorb_lv {x:Cv} {a:Ab} (h:m.absorb x=some a):a.lv=2\/a.lv=4\/a.lv=5:=by
 have lv:∀ n,lvK n=2\/lvK n=4\/lvK n=5:=by intro n; simp only [lvK]; split<;>simp
 revert h; simp only [Lk.absorb]
 repeat' split
 all_goals (intro h; first | (cases h; done) | (have:=Option.some.inj h; subst this; first | (simp; done) | exact lv _))
theorem absorbs_lv:∀ {vl:List Cv} {e c:Nat} {a:Abs},m.absorbs e c vl=some a->a.lv=2\/a.lv=4\/a.lv=5
 | [],e,c,a,h=>by simp only [Lk.absorbs,Option.some.injEq] at h; subst h; simp
 | x::vl,e,c,a,h=>by
  simp only [Lk.absorbs] at h
  cases h1:m.absorb x with
  | none=>simp [h1] at h
  | some a1 =>
   cases h2:m.absorbs e (c+1) vl with
   | none=>simp [h1,h2] at h
   | some a2 =>
    simp only [h1,h2,Option.some.injEq] at h; subst h
    have:=absorb_lv h1
    have:=absorbs_lv h2
    simp only; omega
theorem absorb_sh {x:Cv} {a:Ab} {r k:Nat} (h:m.absorb x=some a) (hs:a.sh=some (r,k)):∃ row,m.r r=some row/\((k=3/\leK 4 row.ow=true)\/(k=4/\row.ow=5)):=by
 revert h; simp only [Lk.absorb]
 repeat' split
 all_goals (intro h; first | (cases h; done) | (have:=Option.some.inj h; subst this; simp only [reduceCtorEq,Option.some.injEq,Prod.mk.injEq] at hs))
 ·obtain ⟨rfl,rfl⟩:=hs
  rename_i h1 h2 h3 _ h5
  exact ⟨_,by assumption,.inr ⟨rfl,by assumption⟩⟩
 ·obtain ⟨rfl,rfl⟩:=hs
  exact ⟨_,by assumption,.inl ⟨rfl,by assumption⟩⟩
theorem absorbs_sh:∀ {vl:List Cv} {e c:Nat} {a:Abs} {r k:Nat},m.absorbs e c vl=some a->(r,k)∈a.sh->∃ row,m.r r=some row/\((k=3/\leK 4 row.ow=true)\/(k=4/\row.ow=5))
 | [],e,c,a,r,k,h,hs=>by simp only [Lk.absorbs,Option.some.injEq] at h; subst h; simp at hs
 | x::vl,e,c,a,r,k,h,hs=>by
  simp only [Lk.absorbs] at h
  cases h1:m.absorb x with
  | none=>simp [h1] at h
  | some a1 =>
   cases h2:m.absorbs e (c+1) vl with
   | none=>simp [h1,h2] at h
   | some a2 =>
    simp only [h1,h2,Option.some.injEq] at h; subst h
    simp only at hs
    cases h3:a1.sh with
    | none=>rw [h3] at hs; exact absorbs_sh h2 hs
    | some p =>
     rw [h3] at hs
     rcases List.mem_cons.1 hs with h4 | h4
     ·exact absorb_sh h1 (by rw [h3,← h4])
     ·exact absorbs_sh h2 h4
theorem absorbs_len:∀ {vl:List Cv} {e c:Nat} {a:Abs},m.absorbs e c vl=some a->a.cts.length=vl.length
 | [],e,c,a,h=>by simp only [Lk.absorbs,Option.some.injEq] at h; subst h; rfl
 | x::vl,e,c,a,h=>by
  simp only [Lk.absorbs] at h
  cases h1:m.absorb x with
  | none=>simp [h1] at h
  | some a1 =>
   cases h2:m.absorbs e (c+1) vl with
   | none=>simp [h1,h2] at h
   | some a2 =>
    simp only [h1,h2,Option.some.injEq] at h; subst h
    simp [absorbs_len h2]
theorem absorb_mv {x:Cv} {a:Ab} {r:Nat} (h:m.absorb x=some a) (hs:a.mv=some r):∃ row,m.r r=some row/\x= .sw r/\a.ct= .l row.τ row.xs:=by
 revert h; simp only [Lk.absorb]
 repeat' split
 all_goals (intro h; first | (cases h; done) | (have:=Option.some.inj h; subst this; simp only [reduceCtorEq,Option.some.injEq] at hs))
 subst hs
 exact ⟨_,by assumption,rfl,rfl⟩
theorem absorbs_mv:∀ {vl:List Cv} {e c:Nat} {a:Abs} {r e' c':Nat},m.absorbs e c vl=some a->(r,(e',c'))∈a.mv->∃ row j,m.r r=some row/\e'=e/\c'=c+j/\vl[j]? =some (.sw r)/\a.cts[j]? =some (.l row.τ row.xs)
 | [],e,c,a,r,e',c',h,hs=>by simp only [Lk.absorbs,Option.some.injEq] at h; subst h; simp at hs
 | x::vl,e,c,a,r,e',c',h,hs=>by
  simp only [Lk.absorbs] at h
  cases h1:m.absorb x with
  | none=>simp [h1] at h
  | some a1 =>
   cases h2:m.absorbs e (c+1) vl with
   | none=>simp [h1,h2] at h
   | some a2 =>
    simp only [h1,h2,Option.some.injEq] at h; subst h
    simp only at hs
    have rest:(r,(e',c'))∈a2.mv->∃ row j,m.r r=some row/\e'=e/\c'=c+j/\(x::vl)[j]? =some (.sw r)/\(a1.ct::a2.cts)[j]? =some (.l row.τ row.xs):=by
     intro h4
     obtain ⟨row,j,h5,h6,h7,h8,h9⟩:=absorbs_mv h2 h4
     exact ⟨row,j+1,h5,h6,by omega,by simpa using h8,by simpa using h9⟩
    cases h3:a1.mv with
    | none=>rw [h3] at hs; exact rest hs
    | some k =>
     rw [h3] at hs
     rcases List.mem_cons.1 hs with h4 | h4
     ·simp only [Prod.mk.injEq] at h4
      obtain ⟨rfl,rfl,rfl⟩:=h4
      obtain ⟨row,h5,rfl,h7⟩:=absorb_mv h1 h3
      exact ⟨row,0,h5,rfl,rfl,rfl,by simpa using h7⟩
     ·exact rest h4
theorem absorb_own {x:Cv} {a:Ab} {r:Nat} {row:Row} (h:m.absorb x=some a) (hx:x= .sw r\/∃ o n,x= .sl r o n) (hr:m.r r=some row) (ho:ownK row.ow=true):a.mv=some r\/∃ k,a.sh=some (r,k):=by
 rcases hx with rfl | ⟨o,n,rfl⟩
 ·simp only [Lk.absorb,hr,ho] at h
  revert h; split
  ·intro h; cases h
  ·intro h; cases h; exact .inl rfl
 ·simp only [Lk.absorb,Cv.row,Cv.inner,hr,ho] at h
  revert h
  repeat' split
  all_goals (intro h; first | (cases h; done) | (cases h; exact .inr ⟨_,rfl⟩) | skip)
  all_goals simp_all
  all_goals (subst h; exact .inr ⟨_,rfl⟩)
theorem absorbs_own:∀ {vl:List Cv} {e c:Nat} {a:Abs} {x:Cv} {r:Nat} {row:Row},m.absorbs e c vl=some a->x∈vl->(x= .sw r\/∃ o n,x= .sl r o n)->m.r r=some row->ownK row.ow=true ->
  r∈keys a.mv\/r∈keys a.sh
 | [],e,c,a,x,r,row,h,hx,_,_,_=>by simp at hx
 | y::vl,e,c,a,x,r,row,h,hx,hxr,hr,ho=>by
  simp only [Lk.absorbs] at h
  cases h1:m.absorb y with
  | none=>simp [h1] at h
  | some a1 =>
   cases h2:m.absorbs e (c+1) vl with
   | none=>simp [h1,h2] at h
   | some a2 =>
    simp only [h1,h2,Option.some.injEq] at h; subst h
    simp only
    rcases List.mem_cons.1 hx with rfl | hx
    ·rcases absorb_own h1 hxr hr ho with h3 | ⟨k,h3⟩
     ·left; rw [h3]; simp [keys]
     ·right; rw [h3]; simp [keys]
    ·rcases absorbs_own h2 hx hxr hr ho with h3 | h3
     ·left; split
      ·simp [keys,h3]
      ·exact h3
     ·right; split
      ·simp [keys,h3]
      ·exact h3
def peRo (r e c:Nat) (row:Row) (vl:List Cv) (a:Abs):Ro :=
 ⟨r,min row.ow a.lv,true,fun e' c'=>decide (e'=e)&&(decide (c<=c')&&decide (c'<c+vl.length)),a.mv,a.sh⟩
def peG (γ:Gh) (r e c:Nat) (row:Row) (vl:List Cv) (a:Abs) (us:List Value):Gh :=
 { γ with O:=(peRo r e c row vl a).O γ.O none,cv:=updN γ.cv r (Soft.repl (γ.cv r) (e*sz row.τ+c) us) }
theorem nes_ne {r e c ow k:Nat} {o:Option Ow} (h:In (nesC r e c ow) o):o≠some (.r k):=by
 revert h; simp only [nesC]; split
 ·intro h; have h:o=_:=h; rw [h]; simp
 ·intro h; have h:o=_:=h; rw [h]; simp
 ·intro h; have h:o=_:=h; rw [h]; simp
 ·rintro (h | h)<;>rw [h]<;>simp
theorem Ro.nes (a:Ro) (hk:a.key∉keys a.sh) {old:Nat} (hold:ownK old=true) (how:a.ow'=2\/a.ow'=4\/a.ow'=5) (hle:leK a.ow' old=true) {e c g:Nat} {O:OM} (hd:a.dead e c=false)
  (h:In (nesC a.key e c old) (O g)):In (nesC a.key e c a.ow') (a.O O none g):=by
 have hn:O g=none->a.O O none g=none:=fun h=>by simp [Ro.O,h]
 have hf:O g=some .fz->a.O O none g=some .fz:=fun h=>by simp [Ro.O,h,Ro.f]
 have ho:O g=some (.n a.key e c)->a.O O none g=some (dn a.ow' a.key e c):=fun h=>by simp [Ro.O,h,Ro.f,lk_none.2 hk,hd]
 rcases ownK_cases hold with rfl | rfl | rfl
 ·have h2:a.ow'=2:=by rcases how with h | h | h<;>rw [h] at hle<;>simp_all [leK]
  rw [h2]
  rcases h with h | h
  ·exact .inl (hn h)
  ·exact .inr (hf h)
 ·have h:O g=some .fz:=h
  rcases how with h2 | h2 | h2
  ·rw [h2]; exact .inr (hf h)
  ·rw [h2]; exact hf h
  ·rw [h2] at hle; simp [leK] at hle
 ·have h:O g=some (.n a.key e c):=h
  rw [ho h]
  exact dn_in how
theorem pe_row (hR:Rel X S.lk γ w) (htop:∀ g,w.heap.size<=g->γ.O g=none) (hm:Le m S.lk) {r e c:Nat} {row:Row} {vl:List Cv} {a:Abs} {y:El row.τ} {av v:Value} {t:TypeId}
  (hr:m.r r=some row) (ho:ownK row.ow=true) (ha:m.absorbs e c vl=some a) (hlen:c+vl.length<=sz row.τ) (hy:mkEl row.τ (Soft.repl (row.cs e) c a.cts)=some y)
  (hok:okEl row.τ a.cts=true) (hap:(peRo r e c row vl a).apart) (hv:RelL S.lk γ vl v.cells.toList) (hav:RelC S.lk γ (.pe r e c) av) (hs:vl.length=szOf X.P t) (hp:0<vl.length) :
  ∃ w',(Instr.storeAt t av v).run X.P w= .ok () w'/\Chg (peRo r e c row vl a).R γ w (peG γ r e c row vl a v.cells.toList) w' /\
   RowR X ((peRo r e c row vl a).O γ.O none) w' r { row with xs:=row.xs.set e y,ow:=min row.ow a.lv } (γ.rv r) (Soft.repl (γ.cv r) (e*sz row.τ+c) v.cells.toList) /\
   (∀ g,g<w.heap.size->γ.O g≠some (.r r)->w'.heap[g]? =w.heap[g]?)/\(∀ e':Nat,e'≠e->({ row with xs:=row.xs.set e y,ow:=min row.ow a.lv }:Row).cs e'=row.cs e') /\
   (({ row with xs:=row.xs.set e y,ow:=min row.ow a.lv }:Row).cs e=Soft.repl (row.cs e) c a.cts)/\e<row.xs.length:=by
 have hr2:=hm.r r row hr
 obtain ⟨row',hr',he,g,o,n',cap,hb,rfl⟩:=hav
 rw [hr2] at hr'; cases hr'
 have hrow:=hR.rs r row hr2
 have htopO:topC r row.ow= .own (.r r):=by simp [topC,ho]
 have htp:=hrow.top
 rw [htopO] at htp
 obtain ⟨hown,howner⟩:=htp
 obtain ⟨hlv1,hlv2,hlv3⟩:=min_own ho (absorbs_lv ha)
 have hul:v.cells.size=vl.length:=by have:=hv.length; simp at this; omega
 rcases hown.2 with ⟨h1,_⟩ | ⟨g1,cap1,cur,h1,_,hg,hnc,hcm,hcs,ht⟩
 ·rw [h1] at hb; cases hb
 have hgo:g1=g/\0=o:=by
  rw [h1] at hb; injection hb with h _ _; injection h with h; injection h with h2 h3 _; exact ⟨h2,h3⟩
 obtain ⟨rfl,rfl⟩:=hgo
 have hOg:γ.O g1=some (.r r):=howner g1 (by rw [h1]; rfl)
 have hlt:=lt_of_some hg
 have hez:(e+1)*sz row.τ<=row.xs.length*sz row.τ:=Nat.mul_le_mul_right _ he
 rw [Nat.add_mul] at hez
 have hcz:row.xs.length*sz row.τ<=cur.size:=by rw [hcs]; exact Nat.mul_le_mul_right _ hnc
 have hcvl:(γ.cv r).length=row.xs.length*sz row.τ:=hown.1
 have hrun:=store_run (X:=X) (t:=t) (v:=v) (o:=0+(e*sz row.τ+c)) hg (by omega) (by omega) (by omega) (hv.one hR)
 rw [Nat.zero_add] at hrun
 have hblk:∀ g,g<w.heap.size->γ.O g≠some (.r r)->(w.setRow g1 (Soft.repl cur.toList (e*sz row.τ+c) v.cells.toList).toArray).heap[g]? =w.heap[g]? :=
  fun g _ hne=>set_other w _ _ g (fun h=>hne (by rw [h]; exact hOg))
 have hcty:=mkEl_cells hy (fun hby=>by
  have hone:row.τ= .byte:=by revert hby; cases row.τ<;>simp [Ty.isByte]
  have:Soft.repl (row.cs e) c a.cts=a.cts:=by
   have h2:sz row.τ=1:=by rw [hone]; rfl
   have h3:(row.cs e).length=1:=by rw [row_cs,cells_length,h2]
   have h4:=(absorbs_len ha)
   have h5:c=0:=by omega
   subst h5
   have h6:vl.length=1:=by omega
   simp only [Soft.repl,h4,h6,List.take_zero,List.nil_append,Nat.zero_add]
   rw [List.drop_of_length_le (by omega),List.append_nil]
  rw [this]; exact hok)
 have hclen:a.cts.length=vl.length:=absorbs_len ha
 have hcse:(row.cs e).length=sz row.τ:=cells_length _ _
 have hcsE:({ row with xs:=row.xs.set e y,ow:=min row.ow a.lv }:Row).cs e=Soft.repl (row.cs e) c a.cts:=by
  simp only [Row.cs]
  rw [show (row.xs.set e y).getD e (dflt row.τ)=y by simp [List.getD,he]]
  exact hcty
 have hcsN:∀ e':Nat,e'≠e->({ row with xs:=row.xs.set e y,ow:=min row.ow a.lv }:Row).cs e'=row.cs e':=by
  intro e' hne
  simp only [Row.cs]
  rw [show (row.xs.set e y).getD e' (dflt row.τ)=row.xs.getD e' (dflt row.τ) by simp [List.getD,List.getElem?_set,Ne.symm hne]]
 have hrw:r∉keys a.mv/\r∉keys a.sh:=by
  have:=hap; simp only [Ro.apart,peRo,List.nodup_cons,List.mem_append,not_or] at this; exact this.1
 have hOf:∀ g o,γ.O g=some o->(peRo r e c row vl a).O γ.O none g=(peRo r e c row vl a).f o:=by
  intro g o h; simp only [Ro.O,h]; simp
 have hfr:(peRo r e c row vl a).f (.r r)=some (.r r):=by
  simp [Ro.f,peRo,lk_none.2 hrw.1,lk_none.2 hrw.2]
 refine ⟨_,by rw [Nat.zero_add]; exact hrun,?_,?_,hblk,hcsN,hcsE,he⟩
 ·exact (peRo r e c row vl a).chg htop rfl rfl rfl (by simp) (by simp) hblk (fun r' hne=>by simp only [updN]; have hne:r'≠r:=hne; simp [hne])
 ·refine ⟨?_,fun e' c' ct he' hct=> ?_⟩
  ·have htopN:topC r (min row.ow a.lv)= .own (.r r):=by simp [topC,hlv2]
   rw [htopN]
   refine ⟨⟨?_,.inr ⟨g1,cap1,_,?_,Nat.zero_le _,set_same w _ _ _ _ _ hg,?_,hcm,?_,?_⟩⟩,fun g hg'=> ?_⟩
   ·rw [repl_length _ _ _ (by rw [hcvl]; simp; omega),hcvl]; simp
   ·rw [h1]; simp
   ·simpa using hnc
   ·simp [repl_length _ _ _ (show e*sz row.τ+c+v.cells.toList.length<=cur.toList.length by simp; omega),hcs]
   ·rw [List.length_set]
    simp only [List.toList_toArray]
    rw [take_repl _ _ _ _ (by simp; omega) (by simpa using hcz),ht]
   ·rw [hOf g (.r r) (howner g hg'),hfr]
  ·have he2:e'<row.xs.length:=by simpa using he'
   have old:∀ ct u,(row.cs e')[c']? =some ct->CellR X γ.O w (nesC r e' c' row.ow) ct u->(e'≠e\/c'<c\/c+vl.length<=c') ->
     CellR X ((peRo r e c row vl a).O γ.O none) (w.setRow g1 (Soft.repl cur.toList (e*sz row.τ+c) v.cells.toList).toArray) (nesC r e' c' (min row.ow a.lv)) ct u:=by
    intro ct u hct hcell hout
    refine hcell.re (fun g o hg hi=> ?_) (leK_nes hlv3 r r e' c')
    refine ⟨(hblk g (lt_of_some hg) (nes_ne hi)).trans hg,?_⟩
    refine (peRo r e c row vl a).nes hrw.2 ho hlv1 hlv3 ?_ hi
    simp only [peRo]
    by_cases h1:e'=e
    ·have h2:¬ (c<=c'/\c'<c+vl.length):=by omega
     simp only [h1,decide_true,Bool.true_and,Bool.and_eq_false_iff,decide_eq_false_iff_not]
     omega
    ·simp [h1]
   by_cases hee:e'=e
   ·subst hee
    rw [hcsE] at hct
    by_cases hin:c<=c'/\c'<c+vl.length
    ·obtain ⟨j,rfl⟩:∃ j,c'=c+j:=⟨c'-c,by omega⟩
     rw [repl_get_in _ _ _ _ (by omega) (by omega)] at hct
     have habs:=(peRo r e' c row vl a).absO (M:=S.lk) hap hlv1 (w:=w) (w':=w.setRow g1 (Soft.repl cur.toList (e'*sz row.τ+c) v.cells.toList).toArray) (γ:=γ) (nb:=none) (by simp) htop (xs:=vl)
      (fun g o hg hi=> ?_)
     ·obtain ⟨_,h2⟩:=absorbs_ok hm hR hlv1 vl _ c a hv ha (Nat.min_le_right _ _) habs
      obtain ⟨u,hu,hcell⟩:=h2 j ct hct
      exact ⟨u,by rw [show e'*sz row.τ+(c+j)=e'*sz row.τ+c+j by omega,repl_get_in _ _ _ _ (by simp; omega) (by rw [hcvl]; simp; omega)]; exact hu,hcell⟩
     ·refine (hblk g (lt_of_some hg) ?_).trans hg
      obtain ⟨x,hx,hi⟩:=hi
      have top:∀ r' row',(x= .sw r'\/∃ o n,x= .sl r' o n)->S.lk.r r'=some row'->In (topC r' row'.ow) (γ.O g)->γ.O g≠some (.r r):=by
       intro r' row' hxr hr' hin heq
       have hr'r:r'=r:=by
        rcases In_topC hin with h | h | h | ⟨_,_,h⟩<;>rw [heq] at h<;>simp at h
        exact h.symm
       subst hr'r
       rcases absorbs_own ha hx hxr hr ho with h | h
       ·exact hrw.1 h
       ·exact hrw.2 h
      cases x<;>simp only [TopA] at hi<;>try exact hi.elim
      all_goals obtain ⟨row',hr',hin⟩:=hi
      ·exact top _ _ (.inl rfl) hr' hin
      ·exact top _ _ (.inr ⟨_,_,rfl⟩) hr' hin
      ·exact nes_ne hin
      ·exact nes_ne hin
    ·have hout:c'<c\/c+vl.length<=c':=by omega
     have hct2:(row.cs e')[c']? =some ct:=by
      rcases hout with h | h
      ·rwa [repl_get_lt _ _ _ _ h (by omega)] at hct
      ·rwa [repl_get_ge _ _ _ _ (by omega) (by omega)] at hct
     obtain ⟨u,hu,hcell⟩:=hrow.cel e' c' ct he2 hct2
     have hc':c'<sz row.τ:=by have:=(List.getElem?_eq_some_iff.1 hct2).1; omega
     refine ⟨u,?_,old ct u hct2 hcell (.inr hout)⟩
     show (Soft.repl (γ.cv r) (e'*sz row.τ+c) _)[e'*sz row.τ+c']? =some u
     rcases hout with h | h
     ·rw [repl_get_lt _ _ _ _ (by omega) (by rw [hcvl]; omega)]; exact hu
     ·rw [repl_get_ge _ _ _ _ (by simp; omega) (by rw [hcvl]; simp; omega)]; exact hu
   ·rw [hcsN e' hee] at hct
    obtain ⟨u,hu,hcell⟩:=hrow.cel e' c' ct he2 hct
    have hc':c'<sz row.τ:=by have:=(List.getElem?_eq_some_iff.1 hct).1; rw [row_cs,cells_length] at this; exact this
    refine ⟨u,?_,old ct u hct hcell (.inl hee)⟩
    show (Soft.repl (γ.cv r) (e*sz row.τ+c) _)[e'*sz row.τ+c']? =some u
    rcases Nat.lt_or_gt_of_ne hee with h | h
    ·have h3:(e'+1)*sz row.τ<=e*sz row.τ:=Nat.mul_le_mul_right _ h
     rw [Nat.add_mul] at h3
     rw [repl_get_lt _ _ _ _ (by omega) (by rw [hcvl]; omega)]; exact hu
    ·have h3:(e+1)*sz row.τ<=e'*sz row.τ:=Nat.mul_le_mul_right _ h
     rw [Nat.add_mul] at h3
     rw [repl_get_ge _ _ _ _ (by simp; omega) (by rw [hcvl]; simp; omega)]; exact hu
theorem lkZ_gone (mv:List (Nat×(Nat×Nat))) (k:Nat):lkZ (gone mv) k=if k∈keys mv then some none else none:=by
 induction mv with
 | nil=>simp [gone,lkZ,keys]
 | cons p mv ih =>
  obtain ⟨j,q⟩:=p
  simp only [gone,lkZ,ih,keys,List.mem_cons]
  by_cases h1:k∈keys mv
  ·simp [h1]
  ·by_cases h2:j=k
   ·simp [h1,h2]
   ·simp [h1,h2,Ne.symm h2]
theorem lkZ_share {sh:List (Nat×Nat)} (hn:(keys sh).Nodup) (hp:∀ r k,(r,k)∈sh->∃ row,m.r r=some row) (k:Nat) :
  lkZ (m.share sh) k=match lk sh k with | some n=>(m.r k).map (fun row=>some { row with ow:=n }) | none=>none:=by
 induction sh with
 | nil=>rfl
 | cons p sh ih =>
  obtain ⟨r,n⟩:=p
  simp only [keys,List.nodup_cons] at hn
  obtain ⟨row,hr⟩:=hp r n (by simp)
  have ih:=ih hn.2 (fun r k h=>hp r k (List.mem_cons_of_mem _ h))
  simp only [Lk.share,hr,lkZ,lk]
  cases hb:Nat.beq r k with
  | true =>
   have:=nat_beq hb; subst this
   rw [ih,lk_none.2 hn.1]
   simp [hr]
  | false =>
   have hne:¬ r=k:=by rintro rfl; rw [Nat.beq_refl] at hb; cases hb
   rw [ih]
   simp only [hne,if_false]
   cases lk sh k with
   | none=>rfl
   | some n=>cases m.r k<;>rfl
theorem lk_pvs (r:Nat) (mv:List (Nat×(Nat×Nat))) (k:Nat):lk (pvs r mv) k=(lk mv k).map fun p=>(r,p.1,p.2):=by
 induction mv with
 | nil=>rfl
 | cons p mv ih =>
  obtain ⟨j,e,c⟩:=p
  simp only [pvs,lk]
  cases Nat.beq j k<;>simp [ih]
def peD (m:Lk) (r:Nat) (row':Row) (a:Abs):Dl:={ Dl.z with mv:=pvs r a.mv,kn:=[r],rs:=gone a.mv++(m.share a.sh++[(r,some row')]) }
theorem peD_rs {r:Nat} {row':Row} {a:Abs} (hap:(r::(keys a.mv++keys a.sh)).Nodup) (hp:∀ r k,(r,k)∈a.sh->∃ row,m.r r=some row) (k:Nat) :
  lkZ (peD m r row' a).rs k=if r=k then some (some row') else match lk a.sh k with
   | some n=>(m.r k).map (fun row=>some { row with ow:=n })
   | none=>if k∈keys a.mv then some none else none:=by
 have hsn:(keys a.sh).Nodup:=by
  simp only [List.nodup_cons,List.nodup_append] at hap; exact hap.2.2.1
 simp only [peD,lkZ_append,lkZ_one,lkZ_share hsn hp,lkZ_gone]
 by_cases h:r=k
 ·simp [h]
 ·simp only [h,if_false]
  cases hl:lk a.sh k with
  | none=>rfl
  | some n =>
   obtain ⟨row,hr⟩:=hp k n (lk_mem hl)
   simp [hr]
theorem pe_step (hR:Rel X S.lk γ w) (htop:∀ g,w.heap.size<=g->γ.O g=none) (hm:Le m S.lk) {r e c:Nat} {row:Row} {vl:List Cv} {a:Abs} {y:El row.τ} {av v:Value} {t:TypeId}
  (hr:m.r r=some row) (ho:ownK row.ow=true) (ha:m.absorbs e c vl=some a) (hlen:c+vl.length<=sz row.τ) (hy:mkEl row.τ (Soft.repl (row.cs e) c a.cts)=some y)
  (hok:okEl row.τ a.cts=true) (hap:(r::(keys a.mv++keys a.sh)).Nodup) (hv:RelL S.lk γ vl v.cells.toList) (hav:RelC S.lk γ (.pe r e c) av) (hs:vl.length=szOf X.P t) (hp:0<vl.length) :
  ∃ w' γ',(Instr.storeAt t av v).run X.P w= .ok () w'/\Step X S γ w (peD m r { row with xs:=row.xs.set e y,ow:=min row.ow a.lv } a) γ' w':=by
 obtain ⟨w',hrun,hchg,hrow,hblk,hcsN,hcsE,he⟩:=pe_row hR htop hm hr ho ha hlen hy hok hap hv hav hs hp
 have hr2:=hm.r r row hr
 have hpr:∀ r k,(r,k)∈a.sh->∃ row,m.r r=some row:=fun r k h=>let ⟨row,h1,_⟩:=absorbs_sh ha h; ⟨row,h1⟩
 have hsn:(keys a.sh).Nodup:=by
  have:=hap; simp only [List.nodup_cons,List.nodup_append] at this; exact this.2.2.1
 have hrw:r∉keys a.mv/\r∉keys a.sh:=by
  have:=hap; simp only [List.nodup_cons,List.mem_append,not_or] at this; exact this.1
 have hms:∀ k,k∈keys a.mv->lk a.sh k=none:=by
  intro k hk
  rw [lk_none]; intro hk'
  have:=hap; simp only [List.nodup_cons,List.nodup_append] at this
  exact this.2.2.2 k hk k hk' rfl
 have hmn:(keys a.mv).Nodup:=by
  have:=hap; simp only [List.nodup_cons,List.nodup_append] at this; exact this.2.1
 let row':Row:={ row with xs:=row.xs.set e y,ow:=min row.ow a.lv }
 have hr':(S.app (peD m r row' a)).lk.r r=some row':=by rw [app_r,peD_rs hap hpr]; simp
 have hrk:∀ k rk,k≠r->S.lk.r k=some rk->k∉keys a.mv->∃ rk',(S.app (peD m r row' a)).lk.r k=some rk'/\rk'.τ=rk.τ/\rk'.xs.length=rk.xs.length/\∀ e,rk'.cs e=rk.cs e:=by
  intro k rk hne hk hnm
  rw [app_r,peD_rs hap hpr,if_neg (Ne.symm hne)]
  cases hl:lk a.sh k with
  | none=>simp only [hnm,if_false]; exact ⟨rk,hk,rfl,rfl,fun _=>rfl⟩
  | some n =>
   obtain ⟨row2,h2⟩:=hpr k n (lk_mem hl)
   have h3:=hm.r k row2 h2
   rw [hk] at h3; cases h3
   simp only [h2,Option.map_some]
   exact ⟨_,rfl,rfl,rfl,fun _=>rfl⟩
 have hlkmv:∀ k,lk (peD m r row' a).mv k=none->k∉keys a.mv:=by
  intro k h
  have h:lk (pvs r a.mv) k=none:=h
  rw [lk_pvs] at h
  rw [← lk_none]; cases h2:lk a.mv k with
  | none=>rfl
  | some p=>rw [h2] at h; cases h
 refine ⟨w',peG γ r e c row vl a v.cells.toList,hrun,rows_step hR rfl hchg ?_ ?_ ?_ (fun k rk h h1=>by
  rw [peD_rs hap hpr] at h
  by_cases hkr:r=k
  ·rw [if_pos hkr] at h; cases h; exact absurd h1 (own_ne1 (min_own ho (absorbs_lv ha)).2.1)
  ·rw [if_neg hkr] at h
   cases hl:lk a.sh k with
   | none=>rw [hl] at h; simp only at h; split at h<;>cases h
   | some n =>
    rw [hl] at h; simp only at h
    obtain ⟨row2,h2,h3⟩:=absorbs_sh ha (lk_mem hl)
    rw [h2] at h; simp only [Option.map_some,Option.some.injEq] at h; subst h
    exfalso; rcases h3 with ⟨h3,_⟩ | ⟨h3,_⟩<;>rw [h3] at h1<;>cases h1) (fun _ _ _=>rfl)⟩
 ·refine keep_gen hR (fun k d e' c' rk h hk=> ?_) (fun k rk hk hn _=> ?_) (fun k rk rk' hk hn _ _ h=> ?_) (fun k hn _ _ hkn=>⟨fun rk rk' hk h=> ?_⟩) (fun k cs hk _=> ?_)
  ·have h:lk (pvs r a.mv) k=some (d,e',c'):=h
   rw [lk_pvs] at h
   cases hl:lk a.mv k with
   | none=>rw [hl] at h; cases h
   | some p =>
    obtain ⟨e1,c1⟩:=p
    rw [hl] at h; simp only [Option.map_some,Option.some.injEq,Prod.mk.injEq] at h
    obtain ⟨rfl,rfl,rfl⟩:=h
    obtain ⟨rk2,j,h1,rfl,rfl,h4,h5⟩:=absorbs_mv ha (lk_mem hl)
    have h1':=hm.r k rk2 h1
    rw [hk] at h1'; cases h1'
    have hcl:=absorbs_len ha
    have hjl:j<vl.length:=(List.getElem?_eq_some_iff.1 h4).1
    have hcse:(row.cs e1).length=sz row.τ:=cells_length _ _
    have hcvl:(γ.cv r).length=row.xs.length*sz row.τ:=(hR.rs r row hr2).top.slF.1
    have hez:(e1+1)*sz row.τ<=row.xs.length*sz row.τ:=Nat.mul_le_mul_right _ he
    rw [Nat.add_mul] at hez
    obtain ⟨u,hu,hc⟩:=hv.get h4
    have hul:=hv.length
    refine ⟨row',hr',by simpa [row'] using he,?_,?_⟩
    ·show (({ row with xs:=row.xs.set e1 y,ow:=min row.ow a.lv }:Row).cs e1)[c+j]? =_
     rw [hcsE,repl_get_in _ _ _ _ (by omega) (by omega)]; exact h5
    ·show (updN γ.cv r (Soft.repl (γ.cv r) (e1*sz row.τ+c) v.cells.toList) r)[e1*sz row.τ+(c+j)]? =_
     simp only [updN,if_true]
     rw [show e1*sz row.τ+(c+j)=e1*sz row.τ+c+j by omega,repl_get_in _ _ _ _ (by omega) (by rw [hcvl]; omega),hu,hc.2]
  ·refine ⟨?_,rfl⟩
   by_cases hkr:k=r
   ·subst hkr; exact ⟨_,hr'⟩
   ·obtain ⟨rk',h1,_⟩:=hrk k rk hkr hk (hlkmv k hn); exact ⟨rk',h1⟩
  ·by_cases hkr:k=r
   ·subst hkr
    rw [hr'] at h; cases h
    rw [hr2] at hk; cases hk
    exact ⟨rfl,by simp [row']⟩
   ·obtain ⟨rk2,h1,h2,h4,_⟩:=hrk k rk hkr hk (hlkmv k hn)
    rw [h] at h1; cases h1
    exact ⟨h2,by omega⟩
  ·have hkr:k≠r:=hasN1.1 hkn
   obtain ⟨rk2,h1,h2,h4,h5⟩:=hrk k rk hkr hk (hlkmv k hn)
   rw [h] at h1; cases h1
   intro e1 c1 τ ys _ hc
   exact ⟨⟨ys,by rw [h5]; exact hc,Nat.le_refl _⟩,by simp [peG,updN,hkr]⟩
  ·rw [app_v]; exact ⟨⟨_,by simp [peD,Dl.z,lkZ,hk]; rfl⟩,rfl⟩
 ·intro k rk h
  rw [peD_rs hap hpr] at h
  by_cases hkr:r=k
  ·subst hkr
   rw [if_pos rfl] at h; cases h
   simpa [peG,updN] using hrow
  ·rw [if_neg hkr] at h
   cases hl:lk a.sh k with
   | none =>
    rw [hl] at h; simp only at h
    split at h<;>cases h
   | some n =>
    rw [hl] at h; simp only at h
    obtain ⟨row2,h2,h3⟩:=absorbs_sh ha (lk_mem hl)
    rw [h2] at h; simp only [Option.map_some,Option.some.injEq] at h; subst h
    have:=(peRo r e c row vl a).shared (w:=w) (w':=w') (γ:=γ) hap (nb:=none) (by simp) htop hblk (hR.rs k row2 (hm.r k row2 h2)) (lk_mem hl) h3
    have hne:k≠r:=Ne.symm hkr
    simpa [peG,updN,hne] using this
 ·intro k rk h hk hRk
  rw [peD_rs hap hpr] at h
  rcases hRk with h1 | h1 | h1
  ·have h1:k=r:=h1
   rw [if_pos h1.symm] at h; cases h
  ·have h1:k∈keys a.mv:=h1
   by_cases hkr:r=k
   ·rw [if_pos hkr] at h; cases h
   ·rw [if_neg hkr,hms k h1] at h; simp [h1] at h
  ·have h1:k∈keys a.sh:=h1
   by_cases hkr:r=k
   ·rw [if_pos hkr] at h; cases h
   ·rw [if_neg hkr] at h
    cases hl:lk a.sh k with
    | none=>exact absurd h1 (lk_none.1 hl)
    | some n =>
     obtain ⟨row2,h2⟩:=hpr k n (lk_mem hl)
     rw [hl] at h; simp [h2] at h
theorem cells_shape {τ:Ty} (x y:El τ) {c:Nat} {σ:Ty} {ys:List (El σ)} (h:(cells τ x)[c]? =some (.l σ ys)):∃ ys':List (El σ),(cells τ y)[c]? =some (.l σ ys'):=by
 have key:∀ (l l':List Ct),l.length=l'.length->(∀ (i:Nat) (a b:Ct),l[i]? =some a->l'[i]? =some b->∀ (σ:Ty) (ys:List (El σ)),a=Ct.l σ ys->∃ zs:List (El σ),b=Ct.l σ zs) ->
   l[c]? =some (.l σ ys)->∃ ys':List (El σ),l'[c]? =some (.l σ ys'):=by
  intro l l' hl hk hc
  have hlt:c<l'.length:=by have:=(List.getElem?_eq_some_iff.1 hc).1; omega
  have hb:l'[c]? =some l'[c]:=List.getElem?_eq_getElem hlt
  obtain ⟨zs,hz⟩:=hk c _ _ hc hb σ ys rfl
  exact ⟨zs,by rw [hb,hz]⟩
 refine key _ _ (by rw [cells_length,cells_length]) ?_ h
 intro i a b ha hb σ ys e
 subst e
 cases τ<;>simp only [cells] at ha hb <;>
  (repeat (rcases i with _ | i<;>first
   | (simp only [List.getElem?_cons_zero,Option.some.injEq,reduceCtorEq] at ha; done)
   | (simp only [List.getElem?_cons_zero,Option.some.injEq] at ha hb; cases ha; subst hb; exact ⟨_,rfl⟩)
   | (simp only [List.getElem?_cons_succ,List.getElem?_nil,reduceCtorEq] at ha; done)
   | simp only [List.getElem?_cons_succ] at ha hb))
theorem allFlat_abs:∀ {vl:List Cv} {e c:Nat} {a:Abs},allFlat vl=true->m.absorbs e c vl=some a->a.mv=[]/\a.sh=[]/\a.lv=5/\∀ (j:Nat) (σ:Ty) (ys:List (El σ)),a.cts[j]? ≠some (.l σ ys)
 | [],e,c,a,_,h=>by simp only [Lk.absorbs,Option.some.injEq] at h; subst h; simp
 | x::vl,e,c,a,hf,h=>by
  have hx:∃ ct,m.absorb x=some ⟨ct,none,none,5⟩/\(∀ (σ:Ty) (ys:List (El σ)),ct≠ .l σ ys)/\allFlat vl=true:=by
   cases x<;>simp only [allFlat] at hf<;>first | (cases hf; done) | exact ⟨_,rfl,by simp,hf⟩
  obtain ⟨ct,h1,hct,hf⟩:=hx
  simp only [Lk.absorbs,h1] at h
  cases h2:m.absorbs e (c+1) vl with
  | none=>simp [h2] at h
  | some a2 =>
   simp only [h2,Option.some.injEq] at h; subst h
   obtain ⟨i1,i2,i3,i4⟩:=allFlat_abs hf h2
   refine ⟨i1,i2,by simp [i3],fun j σ ys=> ?_⟩
   cases j with
   | zero=>simp; exact hct σ ys
   | succ j=>simpa using i4 j σ ys
def pfD (r:Nat) (row':Row):Dl:={ Dl.z with rs:=[(r,some row')] }
theorem pf_r (S:St) (r:Nat) (row':Row) (k:Nat):(S.app (pfD r row')).lk.r k=if r=k then some row' else S.lk.r k:=by
 rw [app_r]
 show (match (if r=k then some (some row') else none) with | some r=>r | none=>_)=_
 by_cases h:r=k<;>simp [h]
theorem pf_v (S:St) (r:Nat) (row':Row) (k:Nat):(S.app (pfD r row')).lk.v k=(S.lk.v k).map (List.map (pfD r row').map):=by rw [app_v]; rfl
theorem pf_step (hR:Rel X S.lk γ w) (htop:∀ g,w.heap.size<=g->γ.O g=none) (hm:Le m S.lk) {r e c:Nat} {row:Row} {vl:List Cv} {a:Abs} {y:El row.τ} {av v:Value} {t:TypeId}
  (hr:m.r r=some row) (ho:ownK row.ow=true) (hfl:allFlat vl=true) (ha:m.absorbs e c vl=some a) (hlen:c+vl.length<=sz row.τ) (hy:mkEl row.τ (Soft.repl (row.cs e) c a.cts)=some y)
  (hok:okEl row.τ a.cts=true) (hv:RelL S.lk γ vl v.cells.toList) (hav:RelC S.lk γ (.pe r e c) av) (hs:vl.length=szOf X.P t) (hp:0<vl.length) :
  ∃ w' γ',(Instr.storeAt t av v).run X.P w= .ok () w'/\Step X S γ w (pfD r { row with xs:=row.xs.set e y }) γ' w':=by
 obtain ⟨fmv,fsh,flv,fct⟩:=allFlat_abs hfl ha
 have hap:(peRo r e c row vl a).apart:=by simp [Ro.apart,peRo,fmv,fsh,keys]
 obtain ⟨w',hrun,hchg,hrow,hblk,hcsN,hcsE,he⟩:=pe_row hR htop hm hr ho ha hlen hy hok hap hv hav hs hp
 have hr2:=hm.r r row hr
 have hmin:min row.ow a.lv=row.ow:=by rw [flv]; rcases ownK_cases ho with h | h | h<;>rw [h]<;>rfl
 rw [hmin] at hrow hcsN hcsE
 have hR':∀ k,(peRo r e c row vl a).R k↔k=r:=by intro k; simp [Ro.R,peRo,fmv,fsh,keys]
 have hul:=hv.length
 have hcl:=absorbs_len ha
 have hcse:(row.cs e).length=sz row.τ:=cells_length _ _
 have hcvl:(γ.cv r).length=row.xs.length*sz row.τ:=(hR.rs r row hr2).top.slF.1
 have hez:(e+1)*sz row.τ<=row.xs.length*sz row.τ:=Nat.mul_le_mul_right _ he
 rw [Nat.add_mul] at hez
 refine ⟨w',peG γ r e c row vl a v.cells.toList,hrun,rows_step hR rfl hchg ?_ ?_ ?_ (one_k1 (own_ne1 ho)) (fun _ _ _=>rfl)⟩
 ·refine keep_of hR rfl (fun k rk hk _=>⟨?_,rfl⟩) (fun k rk rk' hk _ _ h=> ?_) (fun k _ _ _=>⟨fun rk rk' hk h=> ?_⟩) (fun k cs hk _=>⟨⟨_,by rw [pf_v,hk]; rfl⟩,rfl⟩)
  ·rw [pf_r]; by_cases h:r=k
   ·exact ⟨_,if_pos h⟩
   ·exact ⟨rk,by rw [if_neg h]; exact hk⟩
  ·rw [pf_r] at h
   by_cases hk2:r=k
   ·subst hk2; rw [if_pos rfl] at h; cases h
    rw [hr2] at hk; cases hk
    exact ⟨rfl,by simp⟩
   ·rw [if_neg hk2,hk] at h; cases h; exact ⟨rfl,Nat.le_refl _⟩
  ·rw [pf_r] at h
   by_cases hk2:r=k
   ·subst hk2; rw [if_pos rfl] at h; cases h
    rw [hr2] at hk; cases hk
    intro e1 c1 τ ys he1 hc
    have hc1:c1<sz row.τ:=by have:=(List.getElem?_eq_some_iff.1 hc).1; rw [row_cs,cells_length] at this; exact this
    have hcv:(peG γ r e c row vl a v.cells.toList).cv r=Soft.repl (γ.cv r) (e*sz row.τ+c) v.cells.toList:=by simp [peG,updN]
    rw [hcv]
    by_cases hee:e1=e
    ·subst hee
     have hout:c1<c\/c+vl.length<=c1:=by
      rcases Nat.lt_or_ge c1 c with h | h
      ·exact .inl h
      ·rcases Nat.lt_or_ge c1 (c+vl.length) with h2 | h2
       ·exfalso
        obtain ⟨j,rfl⟩:∃ j,c1=c+j:=⟨c1-c,by omega⟩
        obtain ⟨ys',hy'⟩:=cells_shape _ y hc
        have h3:=hcsE
        simp only [Row.cs] at h3
        rw [show (row.xs.set e1 y).getD e1 (dflt row.τ)=y by simp [List.getD,he]] at h3
        rw [h3,repl_get_in _ _ _ _ (by omega) (by rw [cells_length]; omega)] at hy'
        exact fct j τ ys' hy'
       ·exact .inr h2
     rw [hcsE]
     refine ⟨⟨ys,?_,Nat.le_refl _⟩,?_⟩
     ·rcases hout with h | h
      ·rw [repl_get_lt _ _ _ _ h (by omega)]; exact hc
      ·rw [repl_get_ge _ _ _ _ (by omega) (by omega)]; exact hc
     ·rcases hout with h | h
      ·rw [repl_get_lt _ _ _ _ (by omega) (by rw [hcvl]; omega)]
      ·rw [repl_get_ge _ _ _ _ (by omega) (by rw [hcvl]; omega)]
    ·rw [hcsN e1 hee]
     refine ⟨⟨ys,hc,Nat.le_refl _⟩,?_⟩
     rcases Nat.lt_or_gt_of_ne hee with h | h
     ·have h3:(e1+1)*sz row.τ<=e*sz row.τ:=Nat.mul_le_mul_right _ h
      rw [Nat.add_mul] at h3
      rw [repl_get_lt _ _ _ _ (by omega) (by rw [hcvl]; omega)]
     ·have h3:(e+1)*sz row.τ<=e1*sz row.τ:=Nat.mul_le_mul_right _ h
      rw [Nat.add_mul] at h3
      rw [repl_get_ge _ _ _ _ (by omega) (by rw [hcvl]; omega)]
   ·rw [if_neg hk2,hk] at h; cases h
    intro e1 c1 τ ys _ hc
    exact ⟨⟨ys,hc,Nat.le_refl _⟩,by simp [peG,updN,Ne.symm hk2]⟩
 ·intro k rk h
  have h:(if r=k then some (some _) else none)=some (some rk):=h
  by_cases hk:r=k
  ·subst hk; rw [if_pos rfl] at h; cases h
   simpa [peG,updN] using hrow
  ·rw [if_neg hk] at h; cases h
 ·intro k rk h _ hRk
  have h:(if r=k then some (some _) else none)=none:=h
  rw [(hR' k).1 hRk] at h
  simp at h
theorem fcells_get {τ:Ty} (ys:List (El τ)) {k d:Nat} (hk:k<ys.length) (hd:d<sz τ):(fcells τ ys)[k*sz τ+d]? =((cells τ (ys.getD k (dflt τ)))[d]?).map ctVal :=
 getElem?_flatMap_cells τ ys k d hk hd
theorem fcells_set {τ:Ty} (ys:List (El τ)) {k d:Nat} {y:El τ} {cts:List Ct} (hk:k<ys.length) (hd:d+cts.length<=sz τ) (hy:cells τ y=Soft.repl (cells τ (ys.getD k (dflt τ))) d cts) :
  fcells τ (ys.set k y)=Soft.repl (fcells τ ys) (k*sz τ+d) (cts.map ctVal):=by
 have hz:=sz_pos τ
 have hkz:(k+1)*sz τ<=ys.length*sz τ:=Nat.mul_le_mul_right _ hk
 rw [Nat.add_mul] at hkz
 have hfl:=fcells_length τ ys
 have hfl':(fcells τ (ys.set k y)).length=ys.length*sz τ:=by rw [fcells_length]; simp
 have hcl:(cells τ (ys.getD k (dflt τ))).length=sz τ:=cells_length _ _
 apply List.ext_getElem?
 intro i
 by_cases hi:i<ys.length*sz τ
 ·have he:i/sz τ<ys.length:=Nat.div_lt_of_lt_mul (by rwa [Nat.mul_comm])
  have hc:i % sz τ<sz τ:=Nat.mod_lt _ hz
  have hie:i/sz τ*sz τ+i % sz τ=i:=by rw [Nat.mul_comm]; exact Nat.div_add_mod i (sz τ)
  revert he hc hie
  generalize i/sz τ=e
  generalize i % sz τ=c
  intro he hc hie
  subst hie
  rw [fcells_get _ (by simpa using he) hc]
  by_cases hek:e=k
  ·subst hek
   rw [show (ys.set e y).getD e (dflt τ)=y by simp [List.getD,he],hy]
   by_cases h1:c<d
   ·rw [repl_get_lt _ _ _ _ h1 (by omega),repl_get_lt _ _ _ _ (by omega) (by rw [hfl]; omega),fcells_get _ he hc]
   ·by_cases h2:c<d+cts.length
    ·obtain ⟨j,rfl⟩:∃ j,c=d+j:=⟨c-d,by omega⟩
     rw [repl_get_in _ _ _ _ (by omega) (by omega),show e*sz τ+(d+j)=e*sz τ+d+j by omega,repl_get_in _ _ _ _ (by simp; omega) (by rw [hfl]; simp; omega),List.getElem?_map]
    ·rw [repl_get_ge _ _ _ _ (by omega) (by omega),repl_get_ge _ _ _ _ (by simp; omega) (by rw [hfl]; simp; omega),fcells_get _ he hc]
  ·rw [show (ys.set k y).getD e (dflt τ)=ys.getD e (dflt τ) by simp [List.getD,List.getElem?_set,Ne.symm hek]]
   rcases Nat.lt_or_gt_of_ne hek with h | h
   ·have h3:(e+1)*sz τ<=k*sz τ:=Nat.mul_le_mul_right _ h
    rw [Nat.add_mul] at h3
    rw [repl_get_lt _ _ _ _ (by omega) (by rw [hfl]; omega),fcells_get _ he hc]
   ·have h3:(k+1)*sz τ<=e*sz τ:=Nat.mul_le_mul_right _ h
    rw [Nat.add_mul] at h3
    rw [repl_get_ge _ _ _ _ (by simp; omega) (by rw [hfl]; simp; omega),fcells_get _ he hc]
 ·rw [List.getElem?_eq_none (by omega),List.getElem?_eq_none]
  rw [repl_length _ _ _ (by rw [hfl]; simp; omega)]; omega
theorem flat_cts (m:Lk):∀ {vl:List Cv} {us:List Value} {cts:List Ct},allFlat vl=true->RelL M γ vl us->m.cts vl=some cts->us=cts.map ctVal/\cts.length=vl.length
 | [],us,cts,_,hr,h=>by cases hr; simp only [Lk.cts,Option.some.injEq] at h; subst h; simp
 | x::vl,us,cts,hf,hr,h=>by
  cases hr with
  | cons hx hl =>
   rename_i v us
   have:∃ ct,m.ct x=some ct/\v=ctVal ct/\allFlat vl=true:=by
    cases x<;>simp only [allFlat] at hf<;>first | (cases hf; done) | exact ⟨_,rfl,hx,hf⟩
   obtain ⟨ct,h1,rfl,hf⟩:=this
   simp only [Lk.cts,h1] at h
   cases h2:m.cts vl with
   | none=>simp [h2] at h
   | some c2 =>
    simp only [h2,Option.some.injEq] at h; subst h
    obtain ⟨i1,i2⟩:=flat_cts m hf hl h2
    simp [i1,i2]
theorem pn_step (hR:Rel X S.lk γ w) (htop:∀ g,w.heap.size<=g->γ.O g=none) (hm:Le m S.lk) {r e c k d:Nat} {row:Row} {vl:List Cv} {cts:List Ct} {τ:Ty} {ys:List (El τ)} {y:El τ} {z:El row.τ} {av v:Value} {t:TypeId}
  (hr:m.r r=some row) (ho:row.ow=5) (hfl:allFlat vl=true) (hcts:m.cts vl=some cts) (hc:(row.cs e)[c]? =some (.l τ ys)) (hd:d+vl.length<=sz τ)
  (hy:mkEl τ (Soft.repl (cells τ (ys.getD k (dflt τ))) d cts)=some y) (hz:mkEl row.τ (Soft.repl (row.cs e) c [.l τ (ys.set k y)])=some z) (hok:okEl τ cts=true)
  (hv:RelL S.lk γ vl v.cells.toList) (hav:RelC S.lk γ (.pn r e c k d) av) (hs:vl.length=szOf X.P t) (hp:0<vl.length) :
  ∃ w',(Instr.storeAt t av v).run X.P w= .ok () w'/\Step X S γ w (pfD r { row with xs:=row.xs.set e z }) γ w':=by
 have hr2:=hm.r r row hr
 obtain ⟨row',τ',ys',u,hr',he,hc',hu,hk,g,o,n',cap,hb,rfl⟩:=hav
 rw [hr2] at hr'; cases hr'
 rw [hc] at hc'; cases hc'
 have hrow:=hR.rs r row hr2
 obtain ⟨u',hu',hdeep,hsl⟩:=hrow.cel e c _ he hc
 rw [hu] at hu'; cases hu'
 have hn5:∀ e c,nesC r e c row.ow= .own (.n r e c):=by intro e c; rw [ho]; rfl
 have ht5:topC r row.ow= .own (.r r):=by rw [ho]; rfl
 rw [hn5] at hsl
 obtain ⟨hown,howner⟩:=hsl
 obtain ⟨hus,hclen⟩:=flat_cts m hfl hv hcts
 rcases hown.2 with ⟨h1,_⟩ | ⟨g1,cap1,cur,h1,_,hg,hnc,hcm,hcs,ht⟩
 ·rw [h1] at hb; cases hb
 have hgo:g1=g/\0=o:=by
  rw [h1] at hb; injection hb with h _ _; injection h with h; injection h with h2 h3 _; exact ⟨h2,h3⟩
 obtain ⟨rfl,rfl⟩:=hgo
 have hOg:γ.O g1=some (.n r e c):=howner g1 (by rw [h1]; rfl)
 have hvl:=hv.length
 have hkz:(k+1)*sz τ<=ys.length*sz τ:=Nat.mul_le_mul_right _ hk
 rw [Nat.add_mul] at hkz
 have hcz:ys.length*sz τ<=cur.size:=by rw [hcs]; exact Nat.mul_le_mul_right _ hnc
 have hrun:=store_run (X:=X) (t:=t) (v:=v) (o:=0+(k*sz τ+d)) hg (by simp at hvl; omega) (by simp at hvl; omega) (by simp at hvl; omega) (hv.one hR)
 have hcy:cells τ y=Soft.repl (cells τ (ys.getD k (dflt τ))) d cts:=mkEl_cells hy (fun hby=>by
  have hone:τ= .byte:=by revert hby; cases τ<;>simp [Ty.isByte]
  have h2:sz τ=1:=by rw [hone]; rfl
  have h3:(cells τ (ys.getD k (dflt τ))).length=1:=by rw [cells_length,h2]
  have h5:d=0:=by omega
  subst h5
  have h6:vl.length=1:=by omega
  have:Soft.repl (cells τ (ys.getD k (dflt τ))) 0 cts=cts:=by
   simp only [Soft.repl,hclen,h6,List.take_zero,List.nil_append,Nat.zero_add]
   rw [List.drop_of_length_le (by omega),List.append_nil]
  rw [this]; exact hok)
 have hcz':cells row.τ z=Soft.repl (row.cs e) c [.l τ (ys.set k y)]:=mkEl_cells hz (fun hby=>by
  exfalso
  have hone:row.τ.deep=false:=by revert hby; cases row.τ<;>simp [Ty.isByte,Ty.deep]
  exact absurd rfl (cells_flat hone _ _ (List.mem_of_getElem? hc) τ ys))
 have hcse:(row.cs e).length=sz row.τ:=cells_length _ _
 have hcc:c<(row.cs e).length:=(List.getElem?_eq_some_iff.1 hc).1
 let row':Row:={ row with xs:=row.xs.set e z }
 have hcsE:row'.cs e=Soft.repl (row.cs e) c [.l τ (ys.set k y)]:=by
  show cells row.τ ((row.xs.set e z).getD e (dflt row.τ))=_
  rw [show (row.xs.set e z).getD e (dflt row.τ)=z by simp [List.getD,he]]
  exact hcz'
 have hcsN:∀ e':Nat,e'≠e->row'.cs e'=row.cs e':=by
  intro e' hne
  show cells row.τ ((row.xs.set e z).getD e' (dflt row.τ))=cells row.τ (row.xs.getD e' (dflt row.τ))
  rw [show (row.xs.set e z).getD e' (dflt row.τ)=row.xs.getD e' (dflt row.τ) by simp [List.getD,List.getElem?_set,Ne.symm hne]]
 have hcsG:∀ e' c' ct,(row'.cs e')[c']? =some ct->(e'=e/\c'=c/\ct= .l τ (ys.set k y))\/(¬ (e'=e/\c'=c)/\(row.cs e')[c']? =some ct):=by
  intro e' c' ct h
  by_cases hee:e'=e
  ·subst hee
   rw [hcsE] at h
   rcases Nat.lt_trichotomy c' c with h1 | h1 | h1
   ·rw [repl_get_lt _ _ _ _ h1 (by omega)] at h; exact .inr ⟨by omega,h⟩
   ·subst h1
    have:=repl_get_in (row.cs e') [Ct.l τ (ys.set k y)] c' 0 (by simp) (by simp; omega)
    rw [Nat.add_zero] at this
    rw [this] at h; simp at h; exact .inl ⟨rfl,rfl,h.symm⟩
   ·rw [repl_get_ge _ _ _ _ (by simp; omega) (by simp; omega)] at h; exact .inr ⟨by omega,h⟩
  ·rw [hcsN e' hee] at h; exact .inr ⟨fun h=>hee h.1,h⟩
 have hblk:∀ g,g≠g1->(w.setRow g1 (Soft.repl cur.toList (0+(k*sz τ+d)) v.cells.toList).toArray).heap[g]? =w.heap[g]? :=fun g h=>set_other w _ _ g h
 refine ⟨_,hrun,?_⟩
 have hchg:Chg (·=r) γ w γ (w.setRow g1 (Soft.repl cur.toList (0+(k*sz τ+d)) v.cells.toList).toArray) :=
  ⟨rfl,rfl,rfl,by simp,fun g hg' hne=>⟨hblk g (fun h=>by have:=(hne r rfl).2 e c; rw [h,hOg] at this; exact this rfl),rfl⟩,fun g hg'=>htop g (by simpa using hg'),rfl,fun _ _=>⟨rfl,rfl⟩⟩
 have hnewrow:RowR X γ.O (w.setRow g1 (Soft.repl cur.toList (0+(k*sz τ+d)) v.cells.toList).toArray) r row' (γ.rv r) (γ.cv r):=by
  have htp:=hrow.top
  refine ⟨?_,fun e' c' ct he' hct=> ?_⟩
  ·show Sl X γ.O _ (topC r row.ow) row.τ _ (row.xs.set e z).length _
   rw [List.length_set]
   refine htp.re (fun g o hg' hi=> ?_) id
   rw [ht5] at hi
   have hi:γ.O g=some (.r r):=hi
   exact ⟨(hblk g (fun h=>by rw [h,hOg] at hi; cases hi)).trans hg',by rw [ht5]; exact hi⟩
  ·have he2:e'<row.xs.length:=by simpa [row'] using he'
   show ∃ u,(γ.cv r)[e'*sz row.τ+c']? =some u/\CellR X γ.O _ (nesC r e' c' row.ow) ct u
   rcases hcsG e' c' ct hct with ⟨rfl,rfl,rfl⟩ | ⟨hne,hct2⟩
   ·refine ⟨u,hu,hdeep,?_⟩
    rw [hn5]
    refine ⟨⟨by rw [fcells_length],.inr ⟨g1,cap1,_,by rw [h1]; simp,Nat.zero_le _,set_same w _ _ _ _ _ hg,by simpa using hnc,hcm,?_,?_⟩⟩,howner⟩
    ·rw [List.size_toArray,repl_length _ _ _ (by simp only [Array.length_toList] at hvl ⊢; omega),Array.length_toList,hcs]
    ·rw [List.length_set,List.toList_toArray,take_repl _ _ _ _ (by omega) (by simpa using hcz),ht,fcells_set ys hk (by omega) hcy,Nat.zero_add,hus]
   ·obtain ⟨u2,hu2,hcell⟩:=hrow.cel e' c' ct he2 hct2
    refine ⟨u2,hu2,hcell.re (fun g o hg' hi=> ?_) id⟩
    rw [hn5] at hi
    have hi:γ.O g=some (.n r e' c'):=hi
    exact ⟨(hblk g (fun h=>by rw [h,hOg] at hi; simp at hi; exact hne ⟨hi.1.symm,hi.2.symm⟩)).trans hg',by rw [hn5]; exact hi⟩
 refine rows_step hR rfl hchg ?_ ?_ ?_ (one_k1 (by show row.ow≠1; rw [ho]; decide)) (fun _ _ _=>rfl)
 ·refine keep_of hR rfl (fun j rk hj _=>⟨?_,rfl⟩) (fun j rk rk' hj _ _ h=> ?_) (fun j _ _ _=>⟨fun rk rk' hj h=> ?_⟩) (fun j cs hj _=>⟨⟨_,by rw [pf_v,hj]; rfl⟩,rfl⟩)
  ·rw [pf_r]; by_cases h:r=j
   ·exact ⟨_,if_pos h⟩
   ·exact ⟨rk,by rw [if_neg h]; exact hj⟩
  ·rw [pf_r] at h
   by_cases hk2:r=j
   ·subst hk2; rw [if_pos rfl] at h; cases h
    rw [hr2] at hj; cases hj
    exact ⟨rfl,by simp⟩
   ·rw [if_neg hk2,hj] at h; cases h; exact ⟨rfl,Nat.le_refl _⟩
  ·rw [pf_r] at h
   by_cases hk2:r=j
   ·subst hk2; rw [if_pos rfl] at h; cases h
    rw [hr2] at hj; cases hj
    intro e1 c1 σ zs he1 hc1
    refine ⟨?_,rfl⟩
    by_cases hpos:e1=e/\c1=c
    ·obtain ⟨rfl,rfl⟩:=hpos
     rw [hc] at hc1; cases hc1
     refine ⟨ys.set k y,?_,by simp⟩
     show (row'.cs e1)[c1]? =_
     rw [hcsE]
     have:=repl_get_in (row.cs e1) [Ct.l τ (ys.set k y)] c1 0 (by simp) (by simp; omega)
     rw [Nat.add_zero] at this
     rw [this]; rfl
    ·refine ⟨zs,?_,Nat.le_refl _⟩
     show (row'.cs e1)[c1]? =_
     by_cases hee:e1=e
     ·subst hee
      rw [hcsE]
      rcases Nat.lt_trichotomy c1 c with h1 | h1 | h1
      ·rw [repl_get_lt _ _ _ _ h1 (by omega)]; exact hc1
      ·exact absurd ⟨rfl,h1⟩ hpos
      ·rw [repl_get_ge _ _ _ _ (by simp; omega) (by simp; omega)]; exact hc1
     ·rw [hcsN e1 hee]; exact hc1
   ·rw [if_neg hk2,hj] at h; cases h
    intro e1 c1 σ zs _ hc1
    exact ⟨⟨zs,hc1,Nat.le_refl _⟩,rfl⟩
 ·intro j rk h
  have h:(if r=j then some (some row') else none)=some (some rk):=h
  by_cases hj:r=j
  ·subst hj; rw [if_pos rfl] at h; cases h; exact hnewrow
  ·rw [if_neg hj] at h; cases h
 ·intro j rk h _ hj
  have h:(if r=j then some (some row') else none)=none:=h
  rw [if_pos hj.symm] at h; cases h
def clrXs {τ:Ty} (xs:List (El τ)) (off len:Nat):List (El τ):=xs.take off++(List.replicate len (dflt τ)++xs.drop (off+len))
theorem clr_length {τ:Ty} (xs:List (El τ)) {off len:Nat} (h:off+len<=xs.length):(clrXs xs off len).length=xs.length:=by simp [clrXs]; omega
theorem clr_getD {τ:Ty} (xs:List (El τ)) {off len:Nat} (h:off+len<=xs.length) (e:Nat) :
  (clrXs xs off len).getD e (dflt τ)=if off<=e/\e<off+len then dflt τ else xs.getD e (dflt τ):=by
 simp only [clrXs,List.getD,List.getElem?_append,List.length_take,List.length_replicate,List.getElem?_take,List.getElem?_replicate,List.getElem?_drop]
 have h1:min off xs.length=off:=by omega
 rw [h1]
 by_cases h2:e<off
 ·simp [h2,show ¬ (off<=e/\e<off+len) by omega]
 ·by_cases h3:e<off+len
  ·simp [h2,show e-off<len by omega,show off<=e/\e<off+len by omega]
  ·simp [h2,show ¬ e-off<len by omega,show ¬ (off<=e/\e<off+len) by omega,show off+len+(e-off-len)=e by omega]
theorem zeroCells_eq (z:Array Value) (n:Nat):Builtin.zeroCells z n=madeCells z (n*z.size):=rfl
def clD (r:Nat) (row':Row):Dl:={ Dl.z with kn:=[r],rs:=[(r,some row')] }
theorem cl_r (S:St) (r:Nat) (row':Row) (k:Nat):(S.app (clD r row')).lk.r k=if r=k then some row' else S.lk.r k:=by
 rw [app_r]
 show (match (if r=k then some (some row') else none) with | some r=>r | none=>_)=_
 by_cases h:r=k<;>simp [h]
theorem cl_v (S:St) (r:Nat) (row':Row) (k:Nat):(S.app (clD r row')).lk.v k=(S.lk.v k).map (List.map (clD r row').map):=by rw [app_v]; rfl
theorem inplace_step (hR:Rel X S.lk γ w) {r:Nat} {row row':Row} (hr:S.lk.r r=some row) (hτ:row'.τ=row.τ) (hl:row.xs.length<=row'.xs.length) (hn1:row'.ow≠1) {cv':List Value} {O':OM}
  (hchg:Chg (·=r) γ w { γ with O:=O',cv:=updN γ.cv r cv' } w') (hrow:RowR X O' w' r row' (γ.rv r) cv'):Step X S γ w (clD r row') { γ with O:=O',cv:=updN γ.cv r cv' } w':=by
 refine rows_step hR rfl hchg ?_ ?_ ?_ (one_k1 hn1) (fun _ _ _=>rfl)
 ·refine keep_of hR rfl (fun j rk hj _=>⟨?_,rfl⟩) (fun j rk rk' hj _ _ h=> ?_) (fun j _ _ hjn=>⟨fun rk rk' hj h=> ?_⟩) (fun j cs hj _=>⟨⟨_,by rw [cl_v,hj]; rfl⟩,rfl⟩)
  ·rw [cl_r]; by_cases h:r=j
   ·exact ⟨_,if_pos h⟩
   ·exact ⟨rk,by rw [if_neg h]; exact hj⟩
  ·rw [cl_r] at h
   by_cases hk2:r=j
   ·subst hk2; rw [if_pos rfl] at h; cases h
    rw [hr] at hj; cases hj
    exact ⟨hτ,hl⟩
   ·rw [if_neg hk2,hj] at h; cases h; exact ⟨rfl,Nat.le_refl _⟩
  ·have hk2:¬ r=j:=Ne.symm (hasN1.1 hjn)
   rw [cl_r,if_neg hk2,hj] at h; cases h
   intro e1 c1 σ zs _ hc1
   exact ⟨⟨zs,hc1,Nat.le_refl _⟩,by simp [updN,Ne.symm hk2]⟩
 ·intro j rk h
  have h:(if r=j then some (some row') else none)=some (some rk):=h
  by_cases hj:r=j
  ·subst hj; rw [if_pos rfl] at h; cases h; simpa [updN] using hrow
  ·rw [if_neg hj] at h; cases h
 ·intro j rk h _ hj
  have h:(if r=j then some (some row') else none)=none:=h
  rw [if_pos hj.symm] at h; cases h
theorem clear_run {P:Program} {t e:TypeId} {i:TypeInfo} {z:Value} (hu:P.underlying t=some (.slice e)) (hi:P.info? e=some i) (hz:i.zero=some z) {g o n cap:Nat} {cur:Array Value} {e':TypeId}
  (hg:w.heap[g]? =some (.cells cur e' (0,0))) (hle:o+n*z.cells.size<=cur.size) (h1:∀ u∈(madeCells z.cells (n*z.cells.size)).toList,u.oneCell'=true) (hn:0<n) (ty:TypeId) :
  (Builtin.clear_ #[t] ty #[.slice (some ⟨g,o,none⟩) n cap]).run P w= .ok (.tuple #[]) (w.setRow g (Soft.repl cur.toList o (madeCells z.cells (n*z.cells.size)).toList).toArray):=by
 have hst:=run_storeCells_at (P:=P) g o e' (madeCells z.cells (n*z.cells.size)).toList 0 cur w hg (by simp [size_madeCells]; omega) h1
 rw [Nat.add_zero] at hst
 cases n with
 | zero=>omega
 | succ n =>
  simp only [Builtin.clear_,Sem.run_bind,run_underlying hu,Result.andThen_ok,zeroValue,run_info hi,hz,Sem.run_pure,zeroCells_eq,hst]
  simp [Soft.repl,run_underlying hu,zeroValue,run_info hi,hz,zeroCells_eq,hst]
theorem zero_one {τ:Ty}:∀ u∈(cells τ (dflt τ)).map ctVal,u.oneCell'=true:=by
 intro u hu
 obtain ⟨ct,_,rfl⟩:=List.mem_map.1 hu
 cases ct<;>rfl
theorem clear_step (hX:CtxOk X) (hR:Rel X S.lk γ w) (htop:∀ g,w.heap.size<=g->γ.O g=none) (hm:Le m S.lk) {t:TypeId} {r off len:Nat} {xv:Value} {v:AV} {δ:Dl} (hx:RelC S.lk γ (.sl r off len) xv)
  (h:X.clearO m t (.c (.sl r off len))= .w0 v δ) (ty:TypeId) :
  v=u8/\∃ w' γ',(Builtin.clear_ #[t] ty #[xv]).run X.P w= .ok (.tuple #[]) w'/\Step X S γ w δ γ' w':=by
 simp only [Ctx.clearO] at h
 cases ht:X.elOwn t with
 | none=>simp [ht] at h
 | some τ =>
  cases hr:m.r r with
  | none=>simp [ht,hr] at h
  | some row =>
   simp only [ht,hr] at h
   have hr2:=hm.r r row hr
   cases h1:ownK row.ow&&tEq row.τ τ with
   | false=>simp [h1] at h
   | true =>
    cases h2:row.τ.deep&&Nat.beq row.ow 5 with
    | true=>simp [h1,h2] at h
    | false =>
     simp only [h1,h2,Out.w0.injEq] at h
     obtain ⟨rfl,rfl⟩:=h
     simp only [Bool.and_eq_true] at h1
     obtain ⟨ho,hτ⟩:=h1
     have hτ:=tEq_eq hτ
     subst hτ
     refine ⟨rfl,?_⟩
     obtain ⟨hu,hlk⟩:=elOwn_inv ht
     obtain ⟨i,z,hi,hz,hs,hb,hc,hzs⟩:=own_info hX ht
     obtain ⟨row',hr',hle,hsub⟩:=hx
     rw [hr2] at hr'; cases hr'
     have hrow:=hR.rs r row hr2
     have htopO:topC r row.ow= .own (.r r):=by simp [topC,ho]
     have hfl:row.ow=5->row.τ.deep=false:=by
      intro h5; rw [h5] at h2; cases hd:row.τ.deep with
      | false=>rfl
      | true=>rw [hd] at h2; cases h2
     show ∃ w' γ',_/\Step X S γ w (clD r { row with xs:=clrXs row.xs off len }) γ' w'
     have same:∀ (cv':List Value) (O':OM) (w':World),Chg (·=r) γ w { γ with O:=O',cv:=updN γ.cv r cv' } w'->RowR X O' w' r { row with xs:=clrXs row.xs off len } (γ.rv r) cv' ->
       Step X S γ w (clD r { row with xs:=clrXs row.xs off len }) { γ with O:=O',cv:=updN γ.cv r cv' } w':=fun cv' O' w' hchg hnew =>
      inplace_step (row':={ row with xs:=clrXs row.xs off len }) hR hr2 rfl (by show row.xs.length<=(clrXs row.xs off len).length; rw [clr_length _ hle]; exact Nat.le_refl _) (own_ne1 ho) hchg hnew
     by_cases hlen:len=0
     ·subst hlen
      have hclr:clrXs row.xs off 0=row.xs:=by simp [clrXs]
      refine ⟨w,_,?_,same (γ.cv r) γ.O w ⟨rfl,rfl,rfl,Nat.le_refl _,fun _ _ _=>⟨rfl,rfl⟩,htop,rfl,fun j hj=>by simp [updN,hj]⟩ (by rw [hclr]; exact hrow)⟩
      rcases hsub with ⟨_,rfl,_⟩ | ⟨g,o,n',cap,o',cap',_,rfl,_⟩
      ·simp [Builtin.clear_,run_underlying hu]
      ·simp [Builtin.clear_,run_underlying hu]
     ·rcases hsub with ⟨_,_,h0⟩ | ⟨g,o,n',cap,o',cap',hb',rfl,_,_,_,h0⟩
      ·exact absurd h0 hlen
      have ho':o'=o+off*sz row.τ:=h0.resolve_left hlen
      have htp:=hrow.top
      rw [htopO] at htp
      obtain ⟨hown,howner⟩:=htp
      rcases hown.2 with ⟨h3,_⟩ | ⟨g1,cap1,cur,h3,_,hg,hnc,hcm,hcs,htk⟩
      ·rw [h3] at hb'; cases hb'
      have hgo:g1=g/\0=o:=by
       rw [h3] at hb'; injection hb' with h _ _; injection h with h; injection h with h2 h3 _; exact ⟨h2,h3⟩
      obtain ⟨rfl,rfl⟩:=hgo
      subst ho'
      have hcz:row.xs.length*sz row.τ<=cur.size:=by rw [hcs]; exact Nat.mul_le_mul_right _ hnc
      have hlz:(off+len)*sz row.τ<=row.xs.length*sz row.τ:=Nat.mul_le_mul_right _ hle
      rw [Nat.add_mul] at hlz
      have hmade:∀ e c,e<len->c<sz row.τ->(madeCells z.cells (len*z.cells.size)).toList[e*sz row.τ+c]? =((cells row.τ (dflt row.τ))[c]?).map ctVal:=by
       intro e c he hc'
       rw [hzs,made_get hzs (sz_pos _) he hc',hc,List.getElem?_map]
      have hone:∀ u∈(madeCells z.cells (len*z.cells.size)).toList,u.oneCell'=true:=by
       intro u hu'
       obtain ⟨j,hj⟩:=List.mem_iff_getElem?.1 hu'
       have hjl:j<len*sz row.τ:=by
        have:=(List.getElem?_eq_some_iff.1 hj).1; simpa [size_madeCells,hzs] using this
       have hq:j/sz row.τ<len:=Nat.div_lt_of_lt_mul (by rwa [Nat.mul_comm])
       have hm':j % sz row.τ<sz row.τ:=Nat.mod_lt _ (sz_pos _)
       have he:j/sz row.τ*sz row.τ+j % sz row.τ=j:=by rw [Nat.mul_comm]; exact Nat.div_add_mod j _
       have:=hmade _ _ hq hm'
       rw [he,hj] at this
       cases hct:(cells row.τ (dflt row.τ))[j % sz row.τ]? with
       | none=>rw [hct] at this; cases this
       | some ct =>
        rw [hct] at this; simp only [Option.map_some,Option.some.injEq] at this
        rw [this]; exact zero_one _ (List.mem_map_of_mem (List.mem_of_getElem? hct))
      have hrun:=clear_run (w:=w) (cap:=cap') hu hi hz (g:=g1) (o:=0+off*sz row.τ) (n:=len) hg (by rw [hzs]; omega) hone (by omega) ty
      have hml:(madeCells z.cells (len*z.cells.size)).toList.length=len*sz row.τ:=by simp [size_madeCells,hzs]
      have hOg:γ.O g1=some (.r r):=howner g1 (by rw [h3]; rfl)
      refine ⟨_,_,hrun,same (Soft.repl (γ.cv r) (off*sz row.τ) (madeCells z.cells (len*z.cells.size)).toList) γ.O _ ?_ ?_⟩
      ·exact ⟨rfl,rfl,rfl,by simp,fun g hg' hne=>⟨set_other w _ _ g (fun h=>by have:=(hne r rfl).1; rw [h,hOg] at this; exact this rfl),rfl⟩,
        fun g hg'=>htop g (by simpa using hg'),rfl,fun j hj=>by simp [updN,hj]⟩
      ·have hcvl:(γ.cv r).length=row.xs.length*sz row.τ:=hown.1
       refine ⟨?_,fun e c ct he hct=> ?_⟩
       ·show Sl X γ.O _ (topC r row.ow) row.τ _ (clrXs row.xs off len).length _
        rw [clr_length _ hle,htopO]
        refine ⟨⟨by rw [repl_length _ _ _ (by rw [hcvl,hml]; omega),hcvl],.inr ⟨g1,cap1,_,h3,Nat.zero_le _,set_same w _ _ _ _ _ hg,hnc,hcm,?_,?_⟩⟩,howner⟩
        ·rw [List.size_toArray,repl_length _ _ _ (by rw [hml,Array.length_toList]; omega),Array.length_toList,hcs]
        ·rw [List.toList_toArray,take_repl _ _ _ _ (by rw [hml]; omega) (by simpa using hcz),htk,Nat.zero_add]
       ·have he2:e<row.xs.length:=by
         have:e<(clrXs row.xs off len).length:=he
         rwa [clr_length _ hle] at this
        have hct0:(cells row.τ ((clrXs row.xs off len).getD e (dflt row.τ)))[c]? =some ct:=hct
        have hc':c<sz row.τ:=by have:=(List.getElem?_eq_some_iff.1 hct0).1; rwa [cells_length] at this
        rw [clr_getD _ hle] at hct0
        show ∃ u,(Soft.repl (γ.cv r) (off*sz row.τ) _)[e*sz row.τ+c]? =some u/\CellR X γ.O _ (nesC r e c row.ow) ct u
        have hez:(e+1)*sz row.τ<=row.xs.length*sz row.τ:=Nat.mul_le_mul_right _ he2
        rw [Nat.add_mul] at hez
        by_cases hin:off<=e/\e<off+len
        ·rw [if_pos hin] at hct0
         obtain ⟨j,rfl⟩:∃ j,e=off+j:=⟨e-off,by omega⟩
         have hj:j<len:=by omega
         have hjz:(j+1)*sz row.τ<=len*sz row.τ:=Nat.mul_le_mul_right _ hj
         rw [Nat.add_mul] at hjz
         refine ⟨ctVal ct,?_,dflt_cell _ hct0 _ _ _ _⟩
         rw [show (off+j)*sz row.τ+c=off*sz row.τ+(j*sz row.τ+c) by rw [Nat.add_mul]; omega,repl_get_in _ _ _ _ (by rw [hml]; omega) (by rw [hml,hcvl]; omega),hmade j c hj hc',hct0]
         rfl
        ·rw [if_neg hin] at hct0
         obtain ⟨u,hu',hcell⟩:=hrow.cel e c ct he2 hct0
         refine ⟨u,?_,hcell.re (fun g o hg' hi'=>⟨(set_other w _ _ g (fun h=>nes_ne hi' (h▸hOg))).trans hg',hi'⟩) id⟩
         rcases Nat.lt_or_ge e off with h | h
         ·have h4:(e+1)*sz row.τ<=off*sz row.τ:=Nat.mul_le_mul_right _ h
          rw [Nat.add_mul] at h4
          rw [repl_get_lt _ _ _ _ (by omega) (by rw [hcvl]; omega)]; exact hu'
         ·have h4:(off+len)*sz row.τ<=e*sz row.τ:=Nat.mul_le_mul_right _ (by omega)
          rw [Nat.add_mul] at h4
          rw [repl_get_ge _ _ _ _ (by rw [hml]; omega) (by rw [hml,hcvl]; omega)]; exact hu'
end Go.Soft
